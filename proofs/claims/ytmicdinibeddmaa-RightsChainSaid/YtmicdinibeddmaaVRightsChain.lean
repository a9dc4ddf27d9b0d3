/-
  The walk of RightsChain: it returns true at every three ints, and writes nothing that was there.
-/
import Derived.Test.YtmicdinibeddmaaOrd
namespace Go.Proofs.Ytmicdinibeddmaa
open Go.RowKit

set_option maxHeartbeats 1000000 in
theorem vRightsChain_walk (a b c : Int) (w : World) (w0 : (Lit.int .i64 a).wf = true) (w1 : (Lit.int .i64 b).wf = true) (w2 : (Lit.int .i64 c).wf = true) :
    Calls Try.prog 6 #[.int .i64 a, .int .i64 b, .int .i64 c] w fun e w' => e = .returned (.bool true) ∧ Below w.heap.size w w' := by
  have hs := wB_self a
  have hways : (wB a b = false) ∨ (wB a b = true ∧ a ≤ b ∧ ((wB b a = false) ∨ (wB b a = true ∧ (a != b) = false)) ∧ (wB b c = false ∨ (wB b c = true ∧ wB a c = true))) := by
    cases h1 : wB a b
    · exact .inl rfl
    · refine .inr ⟨rfl, wB_le h1, ?_, ?_⟩
      · cases h2 : wB b a
        · exact .inl rfl
        · exact .inr ⟨rfl, by simp [wB_anti h1 h2]⟩
      · cases h2 : wB b c
        · exact .inl rfl
        · exact .inr ⟨rfl, wB_trans h1 h2⟩
  rcases hways with h1 | ⟨h1, h2, h3 | ⟨h3, h4⟩, h5 | ⟨h5, h6⟩⟩
  all_goals
    go_enter Try.func6, Try.ntmps6
    go_wp2_with (first
      | (go_at_call 27; refine (within_any _ _ _ (by assumption) (by assumption)).mono ?_; rintro e w' ⟨rfl, rfl⟩)
      | (go_at_call 28; refine (is_r _ _ (by assumption)).mono ?_; rintro e w' ⟨rfl, rfl⟩)
      | (go_at_call 23; refine (live2_any _).mono ?_; rintro e w3 ⟨rfl, hb3⟩))
    go_ret
    exact ⟨rfl, by assumption⟩
end Go.Proofs.Ytmicdinibeddmaa
