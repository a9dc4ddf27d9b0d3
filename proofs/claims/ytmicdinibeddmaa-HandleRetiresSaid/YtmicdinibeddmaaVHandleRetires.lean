/-
  The walk of HandleRetires: it returns true at every generation to begin from, and writes nothing that was there.
-/
import Derived.Test.YtmicdinibeddmaaHandLive
namespace Go.Proofs.Ytmicdinibeddmaa
open Go.RowKit

/-- The generation behind k bumps from f on. -/
def genAt (f k : Nat) : Int := if k < 4096 - f then ((f + k : Nat) : Int) else -1

theorem genAt_wf (f k : Nat) (hf : f ≤ 4095) : (Lit.int .i64 (genAt f k)).wf = true := by
  unfold genAt
  by_cases h : k < 4096 - f
  · rw [if_pos h]
    exact WalkArith.wf_i64 (by omega)
  · rw [if_neg h]
    decide

theorem ofE_one (z : Int) : ofE [z] 0 = if 0 ≤ z ∧ z ≤ 4095 then 0 else 80 := by
  have h : inB [z] 0 = true := by simp [inB]
  unfold ofE
  rw [if_pos h]
  simp [genB]

theorem genAt_mid {f k : Nat} (h : k < 4096 - f) : ofE [genAt f k] 0 = 0 ∧ bumpL [genAt f k] 0 = [genAt f (k + 1)] := by
  have e : genAt f k = ((f + k : Nat) : Int) := by unfold genAt; rw [if_pos h]
  have h1 : ofE [genAt f k] 0 = 0 := by
    rw [ofE_one, e, if_pos (by omega)]
  refine ⟨h1, ?_⟩
  unfold bumpL
  rw [if_pos h1]
  have h2 : nextV (genAt f k) = genAt f (k + 1) := by
    rw [e]
    unfold nextV genAt
    by_cases h3 : k + 1 < 4096 - f
    · rw [if_pos (by omega), if_pos h3]
      omega
    · rw [if_neg (by omega), if_neg h3]
  simpa using h2

theorem genAt_end (f : Nat) : genAt f (4096 - f) = -1 := by
  unfold genAt
  rw [if_neg (by omega)]

theorem retires_out (f : Int) (w : World) (h : f < 0 ∨ 4095 < f) :
    Calls Try.prog 8 #[.int .i64 f] w fun e w' => e = .returned (.bool true) ∧ Below w.heap.size w w' := by
  rcases h with h | h
  · go_enter Try.func8, Try.ntmps8
    go_wp2_with (first
      | (go_at_call 22; refine (live8_any _).mono ?_; rintro e w1 ⟨rfl, hb⟩))
    go_ret
    exact ⟨rfl, hb⟩
  · have h' : ¬ f < 0 := by omega
    go_enter Try.func8, Try.ntmps8
    go_wp2_with (first
      | (go_at_call 22; refine (live8_any _).mono ?_; rintro e w1 ⟨rfl, hb⟩))
    go_ret
    exact ⟨rfl, hb⟩

set_option maxHeartbeats 1000000 in
theorem retires_in (f : Nat) (w : World) (hf : f ≤ 4095) :
    Calls Try.prog 8 #[.int .i64 f] w fun e w' => e = .returned (.bool true) ∧ Below w.heap.size w w' := by
  have hwf := hid (genAt_wf f 0 hf)
  have h0 : Hid (genAt f 0 = f) := by
    show genAt f 0 = f
    unfold genAt
    rw [if_pos (by omega), Nat.add_zero]
  go_enter Try.func8, Try.ntmps8
  go_wp2_with fail
  go_loopw [3, 4, 5] (fun l n i wr => ∃ (k : Nat) (A : Option Addr) (c : Nat), k ≤ 4096 - f ∧ i = .int .i64 k ∧ n = .int .i64 k ∧ l = .slice A 1 c ∧ Rd wr wr.heap.size A 1 [genAt f k] ∧ Below w.heap.size w wr)
    (fun _ _ i _ => 4097 - (intOf i).toNat)
  case atStart =>
    exact ⟨0, _, _, Nat.zero_le _, rfl, rfl, rfl, rd_lit [genAt f 0] (by rw [h0.out]; exact Row.new w [(f : Int)]) (by intro z hz; simp at hz; rw [hz]; exact hwf.out), (Below.refl _ _).alloc (Nat.le_refl _) _⟩
  case round =>
    obtain ⟨k, A, c, hk, rfl, rfl, rfl, hr, hb⟩ := hrel
    by_cases hlt : k < 4096 - f
    · have hm := genAt_mid hlt
      have HB := hid hb
      have HBL := hid hm.2
      have he := hm.1
      clear hb hm
      go_wp2_with (first
        | (go_at_call 30; refine (bump_any _ _ _ _ _ _ hr (by omega)).mono ?_; rintro e w1 ⟨A1, c1, rfl, hr1, hb1⟩)
        | (go_at_call 19; refine (num8_any _ _).mono ?_; rintro e w' ⟨rfl, rfl⟩))
      go_roundw
      case rel => exact ⟨k + 1, _, _, by omega, by go_num, by go_num, rfl, by rw [← HBL.out]; exact hr1, HB.out.trans (hb1.mono HB.out.size)⟩
      case measure => simp [intOf]; omega
    · have hke : k = 4096 - f := by omega
      rw [hke, genAt_end] at hr
      have hof : ofE [-1] 0 = 80 := by decide
      have hov : ofV [-1] 0 = 0 := by decide
      obtain ⟨b, off, rfl, hbl, hc⟩ := hr.2.2 (by omega)
      have hc0 : wr.cell? ⟨b, off, none⟩ = some (.int .i64 (-1)) := hc 0 (by omega)
      have hn : ((k : Int) == 4096 - (f : Int)) = true := by simp; omega
      have hlo : 4096 - (f : Int) ≤ (k : Int) := by omega
      have hhi : (k : Int) ≤ 4096 - (f : Int) := by omega
      have HB := hid hb
      clear hb hc hke
      by_cases hf0 : f = 0
      · have hk4 : 4096 ≤ k := by omega
        clear hf0
        go_wp2_with (first
          | (go_at_call 29; refine (of_any _ _ _ _ _ _ _ hr).mono ?_; rintro e w' ⟨rfl, rfl⟩)
          | (go_at_call 19; refine (num8_any _ _).mono ?_; rintro e w' ⟨rfl, rfl⟩)
          | (go_at_call 22; refine (live8_any _).mono ?_; rintro e w1 ⟨rfl, hb1⟩))
        go_ret
        exact ⟨rfl, HB.out.trans (hb1.mono HB.out.size)⟩
      · have hk4 : k ≤ 4095 := by omega
        clear hf0
        go_wp2_with (first
          | (go_at_call 30; refine (bump_any _ _ _ _ _ _ hr (by omega)).mono ?_; rintro e w1 ⟨A1, c1, rfl, hr1, hb1⟩; have hc1 := (hb1.cell (p := ⟨b, off, none⟩) hbl).trans hc0)
          | (go_at_call 29; refine (of_any _ _ _ _ _ _ _ (hr.below hb1)).mono ?_; rintro e w' ⟨rfl, rfl⟩)
          | (go_at_call 22; refine (live8_any _).mono ?_; rintro e w2 ⟨rfl, hb2⟩)
          | (go_at_call 19; refine (num8_any _ _).mono ?_; rintro e w' ⟨rfl, rfl⟩))
        go_ret
        have b1 := HB.out.trans (hb1.mono HB.out.size)
        exact ⟨rfl, b1.trans (hb2.mono b1.size)⟩

theorem vHandleRetires_walk (f : Int) (w : World) (_w0 : (Lit.int .i64 f).wf = true) :
    Calls Try.prog 8 #[.int .i64 f] w fun e w' => e = .returned (.bool true) ∧ Below w.heap.size w w' := by
  by_cases h : f < 0 ∨ 4095 < f
  · exact retires_out f w h
  · obtain ⟨k, rfl⟩ := Int.eq_ofNat_of_zero_le (show 0 ≤ f by omega)
    exact retires_in k w (by omega)
end Go.Proofs.Ytmicdinibeddmaa
