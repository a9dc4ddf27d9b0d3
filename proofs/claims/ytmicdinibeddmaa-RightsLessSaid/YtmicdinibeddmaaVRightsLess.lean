/-
  The walk of RightsLess: it returns true at every two ints, and writes nothing that was there.
-/
import Derived.Test.YtmicdinibeddmaaVRightsOrder
namespace Go.Proofs.Ytmicdinibeddmaa
open Go.RowKit

theorem less_no (a b : Int) (w : World) (w0 : (Lit.int .i64 a).wf = true) (w1 : (Lit.int .i64 b).wf = true) (h : ¬ (isR a = true ∧ isR b = true)) :
    Calls Try.prog 13 #[.int .i64 a, .int .i64 b] w fun e w' => e = .returned (.bool true) ∧ Below w.heap.size w w' := by
  obtain ⟨e1, e2⟩ := lessV_bad h
  clear h
  go_enter Try.func13, Try.ntmps13
  go_wp2_with (first
    | (go_at_call 40; refine (less_any _ _ _ (by assumption) (by assumption)).mono ?_; rintro e w' ⟨rfl, rfl⟩)
    | (go_at_call 26; refine (num2_any _ _).mono ?_; rintro e w' ⟨rfl, rfl⟩)
    | (go_at_call 23; refine (live2_any _).mono ?_; rintro e w3 ⟨rfl, hb3⟩))
  go_ret
  exact ⟨rfl, hb3⟩

theorem below_three (w : World) (o1 o2 o3 : Obj) : Below w.heap.size w (((w.alloc o1).alloc o2).alloc o3) := (below_two w o1 o2).alloc (by simp only [World.size_alloc]; omega) _

set_option maxHeartbeats 1000000 in
theorem less_yes (a b : Int) (w : World) (w0 : (Lit.int .i64 a).wf = true) (w1 : (Lit.int .i64 b).wf = true) (h1 : isR a = true) (h2 : isR b = true) :
    Calls Try.prog 13 #[.int .i64 a, .int .i64 b] w fun e w' => e = .returned (.bool true) ∧ Below w.heap.size w w' := by
  obtain ⟨e1, e2⟩ := lessV_good h1 h2
  obtain ⟨s1, m1, p1, p2, p3⟩ := less_plain h1 h2
  have f1 := good_fold (two_good h1 h2)
  have f2 := good_fold (two_good s1 h2)
  have f3 := good_fold (two_good s1 m1)
  have wl := wf_of_isR s1
  have wm := wf_of_isR m1
  obtain ⟨L, hL⟩ : ∃ L, L = subI a b := ⟨_, rfl⟩
  obtain ⟨M, hM⟩ : ∃ M, M = meetV [a, b] := ⟨_, rfl⟩
  rw [← hL] at e1 p1 p2 p3 f2 f3 wl
  rw [← hM] at p2 f3 wm
  have hM' := hM.symm
  clear hL hM s1 m1 h1 h2
  go_enter Try.func13, Try.ntmps13
  go_wp2_with (first
    | (go_at_call 40; refine (less_any _ _ _ (by assumption) (by assumption)).mono ?_; rintro e w' ⟨rfl, rfl⟩)
    | (go_at_call 26; refine (num2_any _ _).mono ?_; rintro e w' ⟨rfl, rfl⟩))
  refine (meet_any _ 2 2 _ [a, b] _ (rd_lit2 _ (Row.new w [a, b]) (pair_wf w0 w1)) (by omega)).mono ?_
  rintro e w' ⟨rfl, rfl⟩
  go_wp2_with fail
  refine (meet_any _ 2 2 _ [L, b] _ (rd_lit2 _ (row_at _ (w.heap.size + 1) (by simp) [L, b]) (pair_wf wl w1)) (by omega)).mono ?_
  rintro e w' ⟨rfl, rfl⟩
  go_wp2_with (first
    | (go_at_call 25; refine (join_any _ 2 2 _ [L, M] _ (rd_lit2 _ (row_at _ (w.heap.size + 1 + 1) (by simp) [L, M]) (pair_wf wl wm)) (by omega)).mono ?_; rintro e w' ⟨rfl, rfl⟩)
    | (go_at_call 27; refine (within_any _ _ _ (by assumption) (by assumption)).mono ?_; rintro e w' ⟨rfl, rfl⟩)
    | (go_at_call 26; refine (num2_any _ _).mono ?_; rintro e w' ⟨rfl, rfl⟩)
    | (go_at_call 23; refine (live2_any _).mono ?_; rintro e w3 ⟨rfl, hb3⟩))
  go_ret
  exact ⟨rfl, then_live (below_three _ _ _ _) hb3⟩

theorem vRightsLess_walk (a b : Int) (w : World) (w0 : (Lit.int .i64 a).wf = true) (w1 : (Lit.int .i64 b).wf = true) :
    Calls Try.prog 13 #[.int .i64 a, .int .i64 b] w fun e w' => e = .returned (.bool true) ∧ Below w.heap.size w w' := by
  by_cases h : isR a = true ∧ isR b = true
  · exact less_yes a b w w0 w1 h.1 h.2
  · exact less_no a b w w0 w1 h
end Go.Proofs.Ytmicdinibeddmaa
