/-
  The reference's comparing of two like lists, and the handle package's first line (live): it is true, and writes nothing that was there.
-/
import Derived.Test.YtmicdinibeddmaaBump
import Derived.Deep.Draws
namespace Go.Proofs.Ytmicdinibeddmaa
open Go.RowKit

/-- The world w' is w, but for some draws. -/
def Drawn (w w' : World) : Prop := ∃ q, w' = w.drewN q
theorem Drawn.refl (w : World) : Drawn w w := ⟨0, rfl⟩
theorem Drawn.drewN {w w' : World} (h : Drawn w w') (k : Nat) : Drawn w (w'.drewN k) := by
  obtain ⟨q, rfl⟩ := h
  exact ⟨q + k, World.drewN_drewN w q k⟩
theorem Drawn.below {w w' : World} (h : Drawn w w') (B : Nat) : Below B w w' := by
  obtain ⟨q, rfl⟩ := h
  exact belowDrewN (Below.refl _ _) q
theorem Drawn.cell {w w' : World} (h : Drawn w w') (p : Addr) : w'.cell? p = w.cell? p := by
  obtain ⟨q, rfl⟩ := h
  rfl

set_option maxHeartbeats 400000 in
theorem ints_same (A A' : Option Addr) (n c c' B B' : Nat) (zs : List Int) (w : World) (h1 : Rd w B A n zs) (h2 : Rd w B' A' n zs) (hn : n ≤ 1000) :
    Calls Try.prog 44 #[.slice A n c, .slice A' n c'] w fun e w' => e = .returned (.bool true) ∧ Drawn w w' := by
  by_cases h0 : n = 0
  · subst h0
    clear h1 h2
    go_enter Try.func44, Try.ntmps44
    go_wp2_with fail
    refine wp_loop_rounds 1 ?_
    rw [rounds_succ]
    go_wp2
    go_ret
    exact ⟨rfl, Drawn.refl _⟩
  · obtain ⟨b, off, rfl, _, hc⟩ := h1.2.2 (by omega)
    obtain ⟨b', off', rfl, _, hc'⟩ := h2.2.2 (by omega)
    clear h1 h2
    have HC := hid hc
    have HC' := hid hc'
    have hpos : 0 < n := by omega
    clear hc hc' h0
    go_enter Try.func44, Try.ntmps44
    go_wp2_with fail
    go_loopw [5] (fun i wr => ∃ k : Nat, k ≤ n ∧ i = .int .i64 k ∧ Drawn w wr) (fun i _ => n - (intOf i).toNat)
    case atStart => exact ⟨0, Nat.zero_le _, rfl, Drawn.refl _⟩
    case round =>
      obtain ⟨k, hk, rfl, hd⟩ := hrel
      by_cases hlt : k < n
      · obtain ⟨z, hz⟩ : ∃ z, z = zs.getD k 0 := ⟨_, rfl⟩
        have hc1 : wr.cell? ⟨b, off + k, none⟩ = some (.int .i64 z) := by rw [hd.cell, HC.out k hlt, hz]
        have hc2 : wr.cell? ⟨b', off' + k, none⟩ = some (.int .i64 z) := by rw [hd.cell, HC'.out k hlt, hz]
        have HD := hid hd
        clear hd hz
        go_wp2_with fail
        go_quiet (fail)
        go_wp2
        go_roundw
        case rel => exact ⟨k + 1, by omega, by go_num, HD.out.drewN _⟩
        case measure => simp [intOf]; omega
      · have HD := hid hd
        clear hd
        go_wp2
        go_ret
        exact ⟨rfl, HD.out⟩

theorem row_new (w : World) (g : Nat) (hg : w.heap.size = g) (zs : List Int) : Row (w.alloc (.cells (zs.map (Value.int .i64)).toArray 3)) g zs := by
  subst hg
  exact Row.new w zs
theorem keep_two {w : World} {A : Option Addr} {n : Nat} {zs : List Int} (h : Rd w w.heap.size A n zs) (o1 o2 : Obj) : Rd ((w.alloc o1).alloc o2) w.heap.size A n zs :=
  h.below (((Below.refl _ _).alloc (Nat.le_refl _) _).alloc (by simp) _)
theorem Drawn.size {w w' : World} (h : Drawn w w') : w'.heap.size = w.heap.size := by
  obtain ⟨q, rfl⟩ := h
  rfl

def LiveBumped (w : World) (e : Ending) (w' : World) : Prop :=
  ∃ A' c', e = .returned (.tuple #[.slice A' 3 c', .int .i64 0]) ∧ Rd w' w'.heap.size A' 3 [0, 0, 4] ∧ Below w.heap.size w w'

theorem rd_lit {w : World} {g : Nat} (zs : List Int) (h : Row w g zs) (hw : ∀ z ∈ zs, (Lit.int .i64 z).wf = true) : Rd w w.heap.size (some ⟨g, 0, none⟩) zs.length zs := h.rd h.lt hw

theorem live_bump (g : Nat) (w : World) (h : Row w g [0, 0, 3]) : Calls Try.prog 30 #[.slice (some ⟨g, 0, none⟩) 3 3, .int .i64 2] w (LiveBumped w) := by
  refine (bump_any (some ⟨g, 0, none⟩) 3 3 [0, 0, 3] 2 w (rd_lit _ h (by decide)) (by omega)).mono ?_
  rintro e w' ⟨A', c', he, hr, hb⟩
  have e1 : ofE [0, 0, 3] 2 = 0 := by decide
  have e2 : bumpL [0, 0, 3] 2 = [0, 0, 4] := by decide
  rw [e1] at he
  rw [e2] at hr
  exact ⟨A', c', he, hr, hb⟩

theorem live_of (g : Nat) (w : World) (h : Row w g [-1]) : Calls Try.prog 29 #[.slice (some ⟨g, 0, none⟩) 1 1, .int .i64 0] w fun e w' => e = .returned (.tuple #[.int .i64 0, .int .i64 80]) ∧ w = w' := by
  have e1 : ofE [-1] 0 = 80 := by decide
  have e2 : ofV [-1] 0 = 0 := by decide
  have h1 := of_any (some ⟨g, 0, none⟩) 1 1 w.heap.size [-1] 0 w (rd_lit _ h (by decide))
  rw [e1, e2] at h1
  exact h1

set_option maxHeartbeats 400000 in
theorem live8_any (w : World) : Calls Try.prog 22 #[] w fun e w' => e = .returned (.bool true) ∧ Below w.heap.size w w' := by
  have e1 : putV 2 3 = 194 := by decide
  have e2 : putE 2 3 = 0 := by decide
  have e3 : parO 194 = 2 := by decide
  have e4 : parG 194 = 3 := by decide
  have e5 : parE 194 = 0 := by decide
  have e6 : nextV 4095 = -1 := by decide
  have e7 : nextV 0 = 1 := by decide
  have e8 : isV [0, 0, 3] 194 = true := by decide
  have e9 : isV [0, 0, 4] 194 = false := by decide
  go_enter Try.func22, Try.ntmps22
  go_wp2_with (first
    | (go_at_call 15; refine (put_any _ _ _).mono ?_; rintro e w' ⟨rfl, rfl⟩)
    | (go_at_call 17; refine (parse_any _ _).mono ?_; rintro e w' ⟨rfl, rfl⟩)
    | (go_at_call 19; refine (num8_any _ _).mono ?_; rintro e w' ⟨rfl, rfl⟩)
    | (go_at_call 20; refine (next_any _ _).mono ?_; rintro e w' ⟨rfl, rfl⟩)
    | (go_at_call 30; refine (live_bump w.heap.size _ (Row.new w [0, 0, 3])).mono ?_; rintro e w1 ⟨A1, c1, rfl, hr1, hb1⟩)
    | (go_at_call 29; refine (live_of w1.heap.size _ (Row.new w1 [-1])).mono ?_; rintro e w' ⟨rfl, rfl⟩)
    | (go_at_call 44; refine (ints_same _ _ _ _ _ _ _ [0, 0, 4] _ (keep_two hr1 _ _) (rd_lit _ (row_new (w1.alloc _) (w1.heap.size + 1) (by simp) [0, 0, 4]) (by decide)) (by omega)).mono ?_; rintro e w2 ⟨rfl, hd2⟩))
  refine (is_any _ _ _ _ [0, 0, 3] _ _ (rd_lit _ (Row.new w2 [0, 0, 3]) (by decide))).mono ?_
  rintro e w' ⟨rfl, rfl⟩
  go_wp2_with fail
  refine (is_any _ _ _ _ [0, 0, 4] _ _ ((keep_two hr1 _ _).below ((hd2.below _).alloc (by have := hd2.size; simp at this; omega) _))).mono ?_
  rintro e w' ⟨rfl, rfl⟩
  go_wp2_with (first
    | (go_at_call 20; refine (next_any _ _).mono ?_; rintro e w' ⟨rfl, rfl⟩))
  go_ret
  have hz1 := hb1.size
  have hz2 := hd2.size
  simp only [World.size_alloc] at hz1 hz2
  have b1 : Below w.heap.size w w1 := ((Below.refl w.heap.size w).alloc (Nat.le_refl _) _).trans (hb1.mono (by simp only [World.size_alloc]; omega))
  have b2 := ((b1.alloc (by omega) _).alloc (by simp only [World.size_alloc]; omega) _).trans (hd2.below w.heap.size)
  exact ⟨rfl, b2.alloc (by omega) _⟩

end Go.Proofs.Ytmicdinibeddmaa
