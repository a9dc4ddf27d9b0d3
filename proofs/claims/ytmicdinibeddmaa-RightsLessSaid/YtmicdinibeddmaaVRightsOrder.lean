/-
  The walk of RightsOrder: it returns true at every three ints, and writes nothing that was there.
-/
import Derived.Test.YtmicdinibeddmaaOrd
namespace Go.Proofs.Ytmicdinibeddmaa
open Go.RowKit

theorem pair_wf {a b : Int} (w0 : (Lit.int .i64 a).wf = true) (w1 : (Lit.int .i64 b).wf = true) : ∀ z ∈ [a, b], (Lit.int .i64 z).wf = true := by
  intro z hz
  simp at hz
  rcases hz with rfl | rfl
  · exact w0
  · exact w1
theorem below_two (w : World) (o1 o2 : Obj) : Below w.heap.size w ((w.alloc o1).alloc o2) := ((Below.refl _ _).alloc (Nat.le_refl _) _).alloc (by simp) _
theorem then_live {w w1 w2 : World} (h : Below w.heap.size w w1) (h2 : Below w1.heap.size w1 w2) : Below w.heap.size w w2 := h.trans (h2.mono h.size)

set_option maxHeartbeats 1000000 in
theorem order_no (a b c : Int) (w : World) (w0 : (Lit.int .i64 a).wf = true) (w1 : (Lit.int .i64 b).wf = true) (h : ¬ (isR a = true ∧ isR b = true)) :
    Calls Try.prog 12 #[.int .i64 a, .int .i64 b, .int .i64 c] w fun e w' => e = .returned (.bool true) ∧ Below w.heap.size w w' := by
  have hb := bad_fold andI 15 (two_bad h)
  have he := hb.2
  have hways : isR a = false ∨ (isR a = true ∧ isR b = false) := by
    cases h1 : isR a
    · exact .inl rfl
    · refine .inr ⟨rfl, ?_⟩
      cases h2 : isR b
      · rfl
      · exact absurd ⟨h1, h2⟩ h
  clear hb h
  rcases hways with h1 | ⟨h1, h2⟩
  all_goals
    go_enter Try.func12, Try.ntmps12
    go_wp2_with (first
      | (go_at_call 24; refine (meet_any _ 2 2 _ [a, b] _ (rd_lit2 _ (Row.new w [a, b]) (pair_wf w0 w1)) (by omega)).mono ?_; rintro e w' ⟨rfl, rfl⟩)
      | (go_at_call 25; refine (join_any _ 2 2 _ [a, b] _ (rd_lit2 _ (row_at _ (w.heap.size + 1) (by simp) [a, b]) (pair_wf w0 w1)) (by omega)).mono ?_; rintro e w' ⟨rfl, rfl⟩)
      | (go_at_call 28; refine (is_r _ _ (by assumption)).mono ?_; rintro e w' ⟨rfl, rfl⟩)
      | (go_at_call 26; refine (num2_any _ _).mono ?_; rintro e w' ⟨rfl, rfl⟩)
      | (go_at_call 23; refine (live2_any _).mono ?_; rintro e w3 ⟨rfl, hb3⟩))
    go_ret
    exact ⟨rfl, then_live (below_two _ _ _) (by assumption)⟩

set_option maxHeartbeats 1000000 in
theorem order_yes (a b c : Int) (w : World) (w0 : (Lit.int .i64 a).wf = true) (w1 : (Lit.int .i64 b).wf = true) (w2 : (Lit.int .i64 c).wf = true) (h1 : isR a = true) (h2 : isR b = true) :
    Calls Try.prog 12 #[.int .i64 a, .int .i64 b, .int .i64 c] w fun e w' => e = .returned (.bool true) ∧ Below w.heap.size w w' := by
  have he := good_fold (two_good h1 h2)
  obtain ⟨p1, p2, p3, p4⟩ := order_plain h1 h2
  have p5 := order_meet (c := c) h1 h2
  have p6 := @order_join a b c
  have wm := wf_of_isR (meet_two h1 h2).1
  have wj := wf_of_isR (join_two h1 h2).1
  obtain ⟨M, hM⟩ : ∃ M, M = meetV [a, b] := ⟨_, rfl⟩
  obtain ⟨J, hJ⟩ : ∃ J, J = joinV [a, b] := ⟨_, rfl⟩
  rw [← hM] at p1 p2 p5 wm
  rw [← hJ] at p3 p4 p6 wj
  have hM' := hM.symm
  have hJ' := hJ.symm
  clear hM hJ
  have hways : (wB c a = false ∧ wB c M = false) ∨ (wB c a = true ∧ wB c b = false ∧ wB c M = false) ∨ (wB c a = true ∧ wB c b = true ∧ wB c M = true) := by
    rw [p5]
    cases wB c a
    · exact .inl ⟨rfl, rfl⟩
    · cases wB c b
      · exact .inr (.inl ⟨rfl, rfl, rfl⟩)
      · exact .inr (.inr ⟨rfl, rfl, rfl⟩)
  have hways2 : (wB a c = false) ∨ (wB a c = true ∧ wB b c = false) ∨ (wB a c = true ∧ wB b c = true ∧ wB J c = true) := by
    cases h3 : wB a c
    · exact .inl rfl
    · cases h4 : wB b c
      · exact .inr (.inl ⟨rfl, rfl⟩)
      · exact .inr (.inr ⟨rfl, rfl, p6 h3 h4⟩)
  clear p5 p6 h1 h2
  rcases hways with ⟨q1, q2⟩ | ⟨q1, q2, q3⟩ | ⟨q1, q2, q3⟩ <;> rcases hways2 with s1 | ⟨s1, s2⟩ | ⟨s1, s2, s3⟩
  all_goals
    go_enter Try.func12, Try.ntmps12
    go_wp2_with (first
      | (go_at_call 24; refine (meet_any _ 2 2 _ [a, b] _ (rd_lit2 _ (Row.new w [a, b]) (pair_wf w0 w1)) (by omega)).mono ?_; rintro e w' ⟨rfl, rfl⟩)
      | (go_at_call 25; refine (join_any _ 2 2 _ [a, b] _ (rd_lit2 _ (row_at _ (w.heap.size + 1) (by simp) [a, b]) (pair_wf w0 w1)) (by omega)).mono ?_; rintro e w' ⟨rfl, rfl⟩)
      | (go_at_call 27; refine (within_any _ _ _ (by assumption) (by assumption)).mono ?_; rintro e w' ⟨rfl, rfl⟩)
      | (go_at_call 26; refine (num2_any _ _).mono ?_; rintro e w' ⟨rfl, rfl⟩)
      | (go_at_call 23; refine (live2_any _).mono ?_; rintro e w3 ⟨rfl, hb3⟩))
    go_ret
    exact ⟨rfl, then_live (below_two _ _ _) (by assumption)⟩

theorem vRightsOrder_walk (a b c : Int) (w : World) (w0 : (Lit.int .i64 a).wf = true) (w1 : (Lit.int .i64 b).wf = true) (w2 : (Lit.int .i64 c).wf = true) :
    Calls Try.prog 12 #[.int .i64 a, .int .i64 b, .int .i64 c] w fun e w' => e = .returned (.bool true) ∧ Below w.heap.size w w' := by
  by_cases h : isR a = true ∧ isR b = true
  · exact order_yes a b c w w0 w1 w2 h.1 h.2
  · exact order_no a b c w w0 w1 h
end Go.Proofs.Ytmicdinibeddmaa
