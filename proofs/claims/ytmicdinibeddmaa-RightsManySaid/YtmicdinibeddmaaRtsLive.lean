/-
  The rights package's first line (live): it is true, and writes nothing that was there.
-/
import Derived.Test.YtmicdinibeddmaaParse
namespace Go.Proofs.Ytmicdinibeddmaa
open Go.RowKit

theorem rd_lit2 {w : World} {g : Nat} (zs : List Int) (h : Row w g zs) (hw : ∀ z ∈ zs, (Lit.int .i64 z).wf = true) : Rd w w.heap.size (some ⟨g, 0, none⟩) zs.length zs := h.rd h.lt hw
theorem row_at (w : World) (g : Nat) (hg : w.heap.size = g) (zs : List Int) : Row (w.alloc (.cells (zs.map (Value.int .i64)).toArray 3)) g zs := by
  subst hg
  exact Row.new w zs

set_option maxHeartbeats 1000000 in
theorem live2_any (w : World) : Calls Try.prog 23 #[] w fun e w' => e = .returned (.bool true) ∧ Below w.heap.size w w' := by
  have e1 : meetV [7, 13] = 5 := by decide +kernel
  have e2 : foldE [7, 13] = 0 := by decide +kernel
  have e3 : joinV [1, 4] = 5 := by decide +kernel
  have e4 : foldE [1, 4] = 0 := by decide +kernel
  have e5 : lessV 7 2 = 5 := by decide +kernel
  have e6 : lessE 7 2 = 0 := by decide +kernel
  have e7 : parV { data := #[114, 45, 103, 45] } = 5 := by decide +kernel
  have e8 : parF { data := #[114, 45, 103, 45] } = 0 := by decide +kernel
  have e9 : parF { data := #[114, 103] } = 20 := by decide +kernel
  have e10 : wB 5 7 = true := by decide +kernel
  have e11 : wB 7 5 = false := by decide +kernel
  have e12 : isR 15 = true := by decide +kernel
  have e13 : isR 16 = false := by decide +kernel
  have e14 : (txt 5).toList = [114, 45, 103, 45] := by decide +kernel
  go_enter Try.func23, Try.ntmps23
  go_wp2_with (first
    | (go_at_call 24; refine (meet_any _ 2 2 _ [7, 13] _ (rd_lit2 _ (Row.new w [7, 13]) (by decide)) (by omega)).mono ?_; rintro e w' ⟨rfl, rfl⟩)
    | (go_at_call 25; refine (join_any _ 2 2 _ [1, 4] _ (rd_lit2 _ (row_at _ (w.heap.size + 1) (by simp) [1, 4]) (by decide)) (by omega)).mono ?_; rintro e w' ⟨rfl, rfl⟩)
    | (go_at_call 40; refine (less_any _ _ _ (by decide) (by decide)).mono ?_; rintro e w' ⟨rfl, rfl⟩))
  refine (parse_r _ _).mono ?_
  rintro e w1 ⟨rfl, hb1⟩
  go_wp2_with fail
  refine (parse_r _ _).mono ?_
  rintro e w2 ⟨rfl, hb2⟩
  go_wp2_with (first
    | (go_at_call 26; refine (num2_any _ _).mono ?_; rintro e w' ⟨rfl, rfl⟩)
    | (go_at_call 27; refine (within_any _ _ _ (by decide) (by decide)).mono ?_; rintro e w' ⟨rfl, rfl⟩)
    | (go_at_call 28; refine (is_r _ _ (by decide)).mono ?_; rintro e w' ⟨rfl, rfl⟩)
    | (go_at_call 36; refine (text_any _ _ (by decide)).mono ?_; rintro e w3 ⟨rfl, hb3⟩))
  go_ret
  have hz1 := hb1.size
  have hz2 := hb2.size
  simp only [World.size_alloc] at hz1
  have b1 : Below w.heap.size w w1 := (((Below.refl w.heap.size w).alloc (Nat.le_refl _) _).alloc (by simp only [World.size_alloc]; omega) _).trans (hb1.mono (by simp only [World.size_alloc]; omega))
  exact ⟨rfl, (b1.trans (hb2.mono (by omega))).trans (hb3.mono (by omega))⟩
end Go.Proofs.Ytmicdinibeddmaa
