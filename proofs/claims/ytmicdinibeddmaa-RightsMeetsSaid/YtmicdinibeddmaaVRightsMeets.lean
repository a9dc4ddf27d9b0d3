/-
  The walk of RightsMeets: it returns true at every list and every two ints, and writes nothing that was there.
-/
import Derived.Test.YtmicdinibeddmaaApp
namespace Go.Proofs.Ytmicdinibeddmaa
open Go.RowKit

theorem meets_long (A : Option Addr) (n c : Nat) (a b : Int) (w : World) (h : 100 < n) :
    Calls Try.prog 11 #[.slice A n c, .int .i64 a, .int .i64 b] w fun e w' => e = .returned (.bool true) ∧ Below w.heap.size w w' := by
  go_enter Try.func11, Try.ntmps11
  go_wp2_with (first | (go_at_call 23; refine (live2_any _).mono ?_; rintro e w3 ⟨rfl, hb3⟩))
  go_ret
  exact ⟨rfl, hb3⟩

/-- A world that is w, below its size. -/
theorem below_empty (w : World) : Below w.heap.size w (w.alloc (.cells #[] 3)) := (Below.refl _ _).alloc (Nat.le_refl _) _

set_option maxHeartbeats 1000000 in
theorem meets_short (A : Option Addr) (n c : Nat) (zs : List Int) (a b : Int) (w : World) (hr : Rd w w.heap.size A n zs) (w0 : (Lit.int .i64 a).wf = true) (w1 : (Lit.int .i64 b).wf = true) (h : n ≤ 100) :
    Calls Try.prog 11 #[.slice A n c, .int .i64 a, .int .i64 b] w fun e w' => e = .returned (.bool true) ∧ Below w.heap.size w w' := by
  have hwz := hid hr.2.1
  go_enter Try.func11, Try.ntmps11
  go_wp2_with (first
    | (at_builtin; refine wpList_app _ rfl (.tmp 24) (.tmp 25) rfl w.heap.size _ 0 [] rfl (Own.new w) A n c w.heap.size zs rfl (hr.below (below_empty w)) n (by omega) (by omega) (by simp) ?_; intro A1 c1 v1 hown1 hgrow1; have b1 := hid ((Own.new w).grown hgrow1 (below_empty w) (by simp)); clear hgrow1)
    | (at_builtin; refine wpList_app _ rfl (.tmp 36) (.tmp 37) rfl v1.heap.size _ 0 [] rfl (Own.new v1) A n c w.heap.size zs rfl ((hr.below b1.out).below ((Below.refl _ _).alloc b1.out.size _)) n (by omega) (by omega) (by simp) ?_; intro A2 c2 v2 hown2 hgrow2; have b2 := hid (b1.out.trans (((Own.new v1).grown hgrow2 (below_empty v1) (by simp)).mono b1.out.size)); clear hgrow2)
    | (go_at_call 24; refine (meet_any A1 n c1 _ zs _ (hown1.rd hwz.out) (by omega)).mono ?_; rintro e w' ⟨rfl, rfl⟩)
    | (go_at_call 38; refine (rmeet_any A n c _ zs _ (hr.below b1.out) (by omega)).mono ?_; rintro e w' ⟨rfl, rfl⟩)
    | (go_at_call 25; refine (join_any A2 n c2 _ zs _ (hown2.rd hwz.out) (by omega)).mono ?_; rintro e w' ⟨rfl, rfl⟩)
    | (go_at_call 39; refine (rjoin_any A n c _ zs _ (hr.below b2.out) (by omega)).mono ?_; rintro e w' ⟨rfl, rfl⟩)
    | (go_at_call 40; refine (less_any _ _ _ (by assumption) (by assumption)).mono ?_; rintro e w' ⟨rfl, rfl⟩)
    | (go_at_call 41; refine (rless_any _ _ _).mono ?_; rintro e w' ⟨rfl, rfl⟩)
    | (go_at_call 26; refine (num2_any _ _).mono ?_; rintro e w' ⟨rfl, rfl⟩)
    | (go_at_call 23; refine (live2_any _).mono ?_; rintro e w3 ⟨rfl, hb3⟩))
  go_ret
  exact ⟨rfl, b2.out.trans (hb3.mono b2.out.size)⟩

theorem vRightsMeets_walk (A : Option Addr) (n c : Nat) (zs : List Int) (a b : Int) (w : World) (hr : Rd w w.heap.size A n zs) (w0 : (Lit.int .i64 a).wf = true) (w1 : (Lit.int .i64 b).wf = true) :
    Calls Try.prog 11 #[.slice A n c, .int .i64 a, .int .i64 b] w fun e w' => e = .returned (.bool true) ∧ Below w.heap.size w w' := by
  by_cases h : 100 < n
  · exact meets_long A n c a b w h
  · exact meets_short A n c zs a b w hr w0 w1 (by omega)
end Go.Proofs.Ytmicdinibeddmaa
