/-
  The walk of HandleNever: it returns true at every two lists and every place, and writes nothing that was there.
-/
import Derived.Test.YtmicdinibeddmaaNever
namespace Go.Proofs.Ytmicdinibeddmaa
open Go.RowKit

theorem never_long (A A2 : Option Addr) (n c n2 c2 : Nat) (o : Int) (w : World) (hn : 100 < n ∨ 100 < n2) :
    Calls Try.prog 7 #[.slice A n c, .int .i64 o, .slice A2 n2 c2] w fun e w' => e = .returned (.bool true) ∧ Below w.heap.size w w' := by
  by_cases h : 100 < n
  · go_enter Try.func7, Try.ntmps7
    go_wp2_with (first
      | (go_at_call 22; refine (live8_any _).mono ?_; rintro e w1 ⟨rfl, hb⟩))
    go_ret
    exact ⟨rfl, hb⟩
  · have h2 : 100 < n2 := by omega
    go_enter Try.func7, Try.ntmps7
    go_wp2_with (first
      | (go_at_call 22; refine (live8_any _).mono ?_; rintro e w1 ⟨rfl, hb⟩))
    go_ret
    exact ⟨rfl, hb⟩

theorem never_none (A A2 : Option Addr) (n c n2 c2 : Nat) (zs : List Int) (o : Int) (w : World) (hr : Rd w w.heap.size A n zs) (hn : n ≤ 100) (hn2 : n2 ≤ 100) (he : ¬ ofE zs o = 0) :
    Calls Try.prog 7 #[.slice A n c, .int .i64 o, .slice A2 n2 c2] w fun e w' => e = .returned (.bool true) ∧ Below w.heap.size w w' := by
  have he' : (ofE zs o != 0) = true := by simp [he]
  clear he
  go_enter Try.func7, Try.ntmps7
  go_wp2_with (first
    | (go_at_call 29; refine (of_any _ _ _ _ _ _ _ hr).mono ?_; rintro e w' ⟨rfl, rfl⟩)
    | (go_at_call 19; refine (num8_any _ _).mono ?_; rintro e w' ⟨rfl, rfl⟩)
    | (go_at_call 22; refine (live8_any _).mono ?_; rintro e w1 ⟨rfl, hb⟩))
  go_ret
  exact ⟨rfl, hb⟩

set_option maxRecDepth 100000 in
set_option maxHeartbeats 1600000 in
theorem never_some (A A2 : Option Addr) (n c n2 c2 o : Nat) (zs ys : List Int) (w : World) (hr : Rd w w.heap.size A n zs) (hr2 : Rd w w.heap.size A2 n2 ys) (hn : n ≤ 100) (hn2 : n2 ≤ 100) (he : ofE zs o = 0) :
    Calls Try.prog 7 #[.slice A n c, .int .i64 o, .slice A2 n2 c2] w fun e w' => e = .returned (.bool true) ∧ Below w.heap.size w w' := by
  have HE := hid he
  have hself := self_is he
  have hnot := past_not he (past_first he)
  have HR2 := hid hr2
  clear hr2
  go_enter Try.func7, Try.ntmps7
  go_wp2_with (first
    | (go_at_call 29; refine (of_any _ _ _ _ _ _ _ hr).mono ?_; rintro e w' ⟨rfl, rfl⟩)
    | (go_at_call 19; refine (num8_any _ _).mono ?_; rintro e w' ⟨rfl, rfl⟩)
    | (go_at_call 30; refine (bump_any _ _ _ _ _ _ hr (by omega)).mono ?_; rintro e w1 ⟨A1, c1, rfl, hr1, hb1⟩)
    | (go_at_call 31; ((with_reducible refine (is_any A n c _ zs _ _ (hr.below hb1)).mono ?_); rintro e w' ⟨rfl, rfl⟩))
    | (go_at_call 31; ((with_reducible refine (is_any A1 n c1 _ (bumpL zs o) _ _ hr1).mono ?_); rintro e w' ⟨rfl, rfl⟩)))
  have B1 := hid hb1
  have HR1 := hid hr1
  have HP := hid (past_first he)
  clear he hself hnot hr hr1 hb1
  go_loopw [9, 11] (fun v i wr => ∃ (k : Nat) (L : List Int) (A : Option Addr) (c : Nat), k ≤ n2 ∧ i = .int .i64 k ∧ v = .slice A n c ∧ Rd wr wr.heap.size A n L ∧ Past (zs.getD o 0) o L ∧ Below w.heap.size w wr)
    (fun _ i _ => n2 - (intOf i).toNat)
  case atStart => exact ⟨0, _, A1, c1, Nat.zero_le _, rfl, rfl, HR1.out, HP.out, B1.out⟩
  case round =>
    obtain ⟨k, L, A3, c3, hk, rfl, rfl, hr3, hp3, hb3⟩ := hrel
    obtain ⟨wo, rfl⟩ : ∃ wo : World, wo = wr := ⟨_, rfl⟩
    have HB3 := hid hb3
    have HP3 := hid hp3
    clear hb3 hp3
    by_cases hlt : k < n2
    · obtain ⟨b2, off2, rfl, hbl2, hc2⟩ := HR2.out.2.2 (by omega)
      have hc3 : wo.cell? ⟨b2, off2 + k, none⟩ = some (.int .i64 (ys.getD k 0)) := (HB3.out.cell (p := ⟨b2, off2 + k, none⟩) hbl2).trans (hc2 k hlt)
      obtain ⟨y, hy⟩ : ∃ y, y = ys.getD k 0 := ⟨_, rfl⟩
      rw [← hy] at hc3
      have hn0 := past_not HE.out (past_step y HP3.out)
      have hbz := HB3.out.size
      clear hc2 hy
      go_wp2_with (first
        | (go_at_call 30; refine (bump_any _ _ _ _ _ _ hr3 (by omega)).mono ?_; rintro e w4 ⟨A4, c4, rfl, hr4, hb4⟩)
        | (go_at_call 31; ((with_reducible refine (is_any A4 n c4 _ (bumpL L y) _ _ hr4).mono ?_); rintro e w' ⟨rfl, rfl⟩)))
      have hc4 : w4.cell? ⟨b2, off2 + k, none⟩ = some (.int .i64 y) := (hb4.cell (p := ⟨b2, off2 + k, none⟩) (Nat.lt_of_lt_of_le hbl2 hbz)).trans hc3
      have HC4 := hid hc4
      have HB4 := hid (HB3.out.trans (hb4.mono hbz))
      have HR4 := hid hr4
      have HR3 := hid (hr3.below hb4)
      have HP4 := hid (past_step y HP3.out)
      clear hc3 hc4 hb4 hr4 hr3 hbz hn0
      go_loopw [15] (fun i wq => ∃ j : Nat, j ≤ n ∧ i = .int .i64 j ∧ Drawn w4 wq) (fun i _ => n - (intOf i).toNat)
      case atStart => exact ⟨0, Nat.zero_le _, rfl, Drawn.refl _⟩
      case round =>
        obtain ⟨j, hj, rfl, hd⟩ := hrel
        obtain ⟨wq, rfl⟩ : ∃ wq : World, wq = wr := ⟨_, rfl⟩
        have HD := hid hd
        have hcq : wq.cell? ⟨b2, off2 + k, none⟩ = some (.int .i64 y) := (hd.cell _).trans HC4.out
        have hrq := HR3.out.keep (w' := wq) fun p _ => hd.cell p
        have hrq4 := HR4.out.keep (w' := wq) fun p _ => hd.cell p
        clear hd
        by_cases hjn : j < n
        · by_cases hE : ofE L j = 0
          · have hways : ((ofE L y != 0) = false ∧ ((j : Int) != y) = false ∧ isV (bumpL L y) (ofV L j) = false) ∨ (((j : Int) != y) = true ∧ isV (bumpL L y) (ofV L j) = true) ∨ ((ofE L y != 0) = true ∧ ((j : Int) != y) = false ∧ isV (bumpL L y) (ofV L j) = true) := by
              rcases never_step (y := y) hE with ⟨e1, e2, e3⟩ | ⟨e1, e2, e3⟩ | ⟨e1, e3⟩
              · exact .inl ⟨by simp [e1], by simp [e2], e3⟩
              · exact .inr (.inl ⟨by simp [e2], e3⟩)
              · by_cases e2 : (j : Int) = y
                · exact .inr (.inr ⟨by simp [e1], by simp [e2], e3⟩)
                · exact .inr (.inl ⟨by simp [e2], e3⟩)
            rcases hways with ⟨f1, f2, f3⟩ | ⟨f2, f3⟩ | ⟨f1, f2, f3⟩
            all_goals
              go_wp2_with (first
                | (go_at_call 29; refine (of_any _ _ _ _ _ _ _ hrq).mono ?_; rintro e w' ⟨rfl, rfl⟩))
              go_quiet (first | (go_at_call 19; exact quietL (num8_any _ _)) | (go_at_call 31; exact quietL (is_any _ _ _ _ _ _ _ (hrq4.drewN _))))
              go_wp2
              go_roundw
              case rel => exact ⟨j + 1, by omega, by go_num, HD.out.drewN _⟩
              case measure => simp [intOf]; omega
          · have f1 : (ofE L j == 0) = false := by simp [hE]
            clear hE
            go_wp2_with (first
              | (go_at_call 29; refine (of_any _ _ _ _ _ _ _ hrq).mono ?_; rintro e w' ⟨rfl, rfl⟩))
            go_quiet (first | (go_at_call 19; exact quietL (num8_any _ _)) | (go_at_call 31; exact quietL (is_any _ _ _ _ _ _ _ (hrq4.drewN _))))
            go_wp2
            go_roundw
            case rel => exact ⟨j + 1, by omega, by go_num, HD.out.drewN _⟩
            case measure => simp [intOf]; omega
        · go_wp2
          go_roundw
          case rel => exact ⟨k + 1, _, A4, c4, by omega, by go_num, rfl, (HR4.out.keep (w' := wq) fun p _ => HD.out.cell p).more (by rw [HD.out.size]; exact Nat.le_refl _), HP4.out, HB4.out.trans (HD.out.below _)⟩
          case measure => simp [intOf]; omega
    · go_wp2_with (first
        | (go_at_call 22; refine (live8_any _).mono ?_; rintro e w9 ⟨rfl, hb9⟩))
      go_ret
      exact ⟨rfl, HB3.out.trans (hb9.mono HB3.out.size)⟩

theorem vHandleNever_walk (A : Option Addr) (n c : Nat) (zs : List Int) (o : Int) (A2 : Option Addr) (n2 c2 : Nat) (ys : List Int) (w : World) (w0 : Rd w w.heap.size A n zs) (_w1 : (Lit.int .i64 o).wf = true) (w2 : Rd w w.heap.size A2 n2 ys) :
    Calls Try.prog 7 #[.slice A n c, .int .i64 o, .slice A2 n2 c2] w fun e w' => e = .returned (.bool true) ∧ Below w.heap.size w w' := by
  by_cases hn : 100 < n ∨ 100 < n2
  · exact never_long A A2 n c n2 c2 o w hn
  · by_cases he : ofE zs o = 0
    · obtain ⟨k, rfl⟩ := Int.eq_ofNat_of_zero_le (ofE_in he).1
      exact never_some A A2 n c n2 c2 k zs ys w w0 w2 (by omega) (by omega) he
    · exact never_none A A2 n c n2 c2 zs o w w0 (by omega) (by omega) he
end Go.Proofs.Ytmicdinibeddmaa
