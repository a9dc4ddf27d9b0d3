/-
  The walk of RightsBack: it returns true at every two ints, and writes nothing that was there.
-/
import Derived.Test.YtmicdinibeddmaaOrd
namespace Go.Proofs.Ytmicdinibeddmaa
open Go.RowKit

theorem txt_none {a : Int} (h : isR a = false) : txt a = { data := #[] } := by
  unfold txt
  rw [h]
  rfl

theorem back_no1 (a b : Int) (w : World) (w0 : (Lit.int .i64 a).wf = true) (h : isR a = false) :
    Calls Try.prog 14 #[.int .i64 a, .int .i64 b] w fun e w' => e = .returned (.bool true) ∧ Below w.heap.size w w' := by
  have ht := txt_none h
  go_enter Try.func14, Try.ntmps14
  go_wp2_with (first
    | (go_at_call 28; refine (is_r _ _ (by assumption)).mono ?_; rintro e w' ⟨rfl, rfl⟩)
    | (go_at_call 36; refine (text_any _ _ (by assumption)).mono ?_; rintro e w2 ⟨rfl, hb2⟩)
    | (go_at_call 23; refine (live2_any _).mono ?_; rintro e w3 ⟨rfl, hb3⟩))
  go_ret
  exact ⟨rfl, hb2.trans (hb3.mono hb2.size)⟩

theorem back_no2 (a b : Int) (w : World) (w0 : (Lit.int .i64 a).wf = true) (w1 : (Lit.int .i64 b).wf = true) (h1 : isR a = true) (h2 : isR b = false) :
    Calls Try.prog 14 #[.int .i64 a, .int .i64 b] w fun e w' => e = .returned (.bool true) ∧ Below w.heap.size w w' := by
  go_enter Try.func14, Try.ntmps14
  go_wp2_with (first
    | (go_at_call 28; refine (is_r _ _ (by assumption)).mono ?_; rintro e w' ⟨rfl, rfl⟩)
    | (go_at_call 23; refine (live2_any _).mono ?_; rintro e w3 ⟨rfl, hb3⟩))
  go_ret
  exact ⟨rfl, hb3⟩

set_option maxHeartbeats 1000000 in
theorem back_yes (a b : Int) (w : World) (w0 : (Lit.int .i64 a).wf = true) (w1 : (Lit.int .i64 b).wf = true) (h1 : isR a = true) (h2 : isR b = true) :
    Calls Try.prog 14 #[.int .i64 a, .int .i64 b] w fun e w' => e = .returned (.bool true) ∧ Below w.heap.size w w' := by
  obtain ⟨p1, p2, p3⟩ := back_text h1
  have hways : (((txt a).toList == (txt b).toList) = true ∧ (a == b) = true) ∨ (((txt a).toList == (txt b).toList) = false ∧ (a == b) = false) := by
    by_cases h : a = b
    · exact .inl ⟨by rw [h]; exact beq_self_eq_true _, by simp [h]⟩
    · exact .inr ⟨by rw [beq_eq_false_iff_ne]; exact fun e => h (text_inj h1 h2 e), by simp [h]⟩
  rcases hways with ⟨q1, q2⟩ | ⟨q1, q2⟩
  all_goals
    go_enter Try.func14, Try.ntmps14
    go_wp2_with (first
      | (go_at_call 28; refine (is_r _ _ (by assumption)).mono ?_; rintro e w' ⟨rfl, rfl⟩)
      | (go_at_call 26; refine (num2_any _ _).mono ?_; rintro e w' ⟨rfl, rfl⟩))
    refine (text_any _ _ (by assumption)).mono ?_
    rintro e w2 ⟨rfl, hb2⟩
    go_wp2_with fail
    refine (parse_r _ _).mono ?_
    rintro e w3 ⟨rfl, hb3⟩
    go_wp2_with (first | (go_at_call 26; refine (num2_any _ _).mono ?_; rintro e w' ⟨rfl, rfl⟩))
    refine (text_any _ _ (by assumption)).mono ?_
    rintro e w4 ⟨rfl, hb4⟩
    go_wp2_with fail
    refine (text_any _ _ (by assumption)).mono ?_
    rintro e w5 ⟨rfl, hb5⟩
    go_wp2_with fail
    refine (text_any _ _ (by assumption)).mono ?_
    rintro e w6 ⟨rfl, hb6⟩
    go_wp2_with (first | (go_at_call 23; refine (live2_any _).mono ?_; rintro e w7 ⟨rfl, hb7⟩))
    go_ret
    have b3 := hb2.trans (hb3.mono hb2.size)
    have b4 := b3.trans (hb4.mono b3.size)
    have b5 := b4.trans (hb5.mono b4.size)
    have b6 := b5.trans (hb6.mono b5.size)
    exact ⟨rfl, b6.trans (hb7.mono b6.size)⟩

theorem vRightsBack_walk (a b : Int) (w : World) (w0 : (Lit.int .i64 a).wf = true) (w1 : (Lit.int .i64 b).wf = true) :
    Calls Try.prog 14 #[.int .i64 a, .int .i64 b] w fun e w' => e = .returned (.bool true) ∧ Below w.heap.size w w' := by
  cases h1 : isR a
  · exact back_no1 a b w w0 h1
  · cases h2 : isR b
    · exact back_no2 a b w w0 w1 h1 h2
    · exact back_yes a b w w0 w1 h1 h2
end Go.Proofs.Ytmicdinibeddmaa
