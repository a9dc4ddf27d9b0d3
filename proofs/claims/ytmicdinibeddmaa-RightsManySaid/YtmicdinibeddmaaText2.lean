/-
  What rights.Text answers: a contract for every int; it writes into its own bytes alone.
-/
import Derived.Test.YtmicdinibeddmaaText
import Derived.Laws.BytesArg
import Derived.Lib.SlBytesConst
namespace Go.Proofs.Ytmicdinibeddmaa
open Go.RowKit

/-- Block g holds four bytes as the call's own literal. -/
def RowB (w : World) (g : Nat) (ns : List Int) : Prop := w.heap[g]? = some (.cells (ns.map (Value.int .u8)).toArray 5 (4, 5))
theorem RowB.lt {w : World} {g : Nat} {ns : List Int} (h : RowB w g ns) : g < w.heap.size := lt_of_heap h
theorem RowB.cell {w : World} {g : Nat} {ns : List Int} (h : RowB w g ns) (i : Nat) (hi : i < ns.length) : w.cell? ⟨g, i, none⟩ = some (.int .u8 (ns.getD i 0)) := by
  unfold RowB at h
  rw [cell_of_row w g i _ 5 (4, 5) h]
  simp [List.getD_eq_getElem?_getD, hi]
theorem RowB.free {w : World} {g : Nat} {ns : List Int} (h : RowB w g ns) (i : Nat) (hi : i < 4) : w.frozen? ⟨g, i, none⟩ = false := by
  unfold RowB at h
  simp [World.frozen?, h]
  omega
theorem RowB.set_ {w : World} {g : Nat} {ns : List Int} (h : RowB w g ns) (i : Nat) (z : Int) : RowB (w.setCell ⟨g, i, none⟩ (.int .u8 z)) g (ns.set i z) := by
  unfold RowB at h ⊢
  simp [World.setCell, Array.getElem?_modify, h, List.map_set]

/-- The four bytes behind k rounds. -/
def partI (r : Int) (k : Nat) : List Int := (List.range 4).map fun j => (((if j < k then chr r j else sign j).toNat : Nat) : Int)
theorem partI_len (r : Int) (k : Nat) : (partI r k).length = 4 := by simp [partI]
theorem partI_yes (r : Int) {k : Nat} (hk : k < 4) (h : hasB r k = true) : partI r (k + 1) = partI r k := by
  have e : chr r k = sign k := by unfold chr; rw [if_pos h]
  unfold partI
  refine List.map_congr_left fun j _ => ?_
  by_cases h1 : j < k
  · rw [if_pos h1, if_pos (by omega)]
  · by_cases h2 : j = k
    · subst h2
      rw [if_neg h1, if_pos (by omega), e]
    · rw [if_neg h1, if_neg (by omega)]
theorem partI_no (r : Int) {k : Nat} (hk : k < 4) (h : ¬ hasB r k = true) : partI r (k + 1) = (partI r k).set k 45 := by
  have e : chr r k = 45 := by unfold chr; rw [if_neg h]
  obtain ⟨z, rfl⟩ := fin4 hk
  have hz : z.val = 0 ∨ z.val = 1 ∨ z.val = 2 ∨ z.val = 3 := by omega
  rcases hz with hz | hz | hz | hz <;> rw [hz] at e ⊢ <;> simp [partI, List.range_succ, e]
theorem partI_end (r : Int) : strOfNums (partI r 4) = txtK r 4 := by
  unfold strOfNums txtK txtL partI
  congr 2
  rw [List.map_map]
  refine List.map_congr_left fun j hj => ?_
  have hj4 : j < 4 := by simpa using hj
  simp [hj4]

theorem bit_test {r : Int} (h : isR r = true) {k : Nat} (hk : k < 4) : (bits .and .i64 (r / 2 ^ k) 1 == 0) = !hasB r k := by
  obtain ⟨x, rfl⟩ := fin16 h
  obtain ⟨z, rfl⟩ := fin4 hk
  clear h hk
  revert x z
  decide +kernel

theorem text_no (r : Int) (w : World) (hw : (Lit.int .i64 r).wf = true) (h : ¬ isR r = true) :
    Calls Try.prog 36 #[.int .i64 r] w fun e w' => e = .returned (.string ⟨#[]⟩) ∧ Below w.heap.size w w' := by
  have h1 := isR_no h
  clear h
  go_enter Try.func36, Try.ntmps36
  go_wp2_with (first | (go_at_call 28; refine (is_r _ _ (by assumption)).mono ?_; rintro e w' ⟨rfl, rfl⟩))
  go_ret
  exact ⟨rfl, Below.refl _ _⟩

theorem text_yes (r : Int) (w : World) (hw : (Lit.int .i64 r).wf = true) (h : isR r = true) :
    Calls Try.prog 36 #[.int .i64 r] w fun e w' => e = .returned (.string (txtK r 4)) ∧ Below w.heap.size w w' := by
  have kc := fun (w : World) (C : Array Value) (n c : Nat) => Lib.run_convert_bytes_const (P := Try.prog) w 60 5 C n c Try.underlying60 Try.underlying5
  have h01 := (isR_iff.1 h).1
  have h02 := (isR_iff.1 h).2
  go_enter Try.func36, Try.ntmps36
  go_wp2_with (first | (go_at_call 28; refine (is_r _ _ (by assumption)).mono ?_; rintro e w' ⟨rfl, rfl⟩))
  go_loopw [12] (fun i wr => ∃ k : Nat, k ≤ 4 ∧ i = .int .i64 k ∧ RowB wr w.heap.size (partI r k) ∧ Below w.heap.size w wr) (fun i _ => 4 - (intOf i).toNat)
  case atStart => exact ⟨0, Nat.zero_le _, rfl, heap_alloc_new w _, (Below.refl _ _).alloc (Nat.le_refl _) _⟩
  case round =>
    obtain ⟨k, hk, rfl, hrow, hb⟩ := hrel
    have HROW := hid hrow
    have HB := hid hb
    clear hrow hb
    by_cases hlt : k < 4
    · have hbt := bit_test h hlt
      have hc1 := HROW.out.cell k (by rw [partI_len]; exact hlt)
      have hc2 := HROW.out.free k hlt
      by_cases h1 : hasB r k = true
      · have HS := hid (partI_yes r hlt h1)
        go_wp2
        go_roundw
        case rel => exact ⟨k + 1, by omega, by go_num, by rw [HS.out]; exact HROW.out, HB.out⟩
        case measure => simp [intOf]; omega
      · have HS := hid (partI_no r hlt h1)
        have h3 : hasB r k = false := by simpa using h1
        clear h1
        go_wp2
        go_roundw
        case rel => exact ⟨k + 1, by omega, by go_num, by rw [HS.out]; exact HROW.out.set_ k 45, HB.out.setCell (Nat.le_refl _) _⟩
        case measure => simp [intOf]; omega
    · obtain rfl : k = 4 := by omega
      have hcv := run_convert_bytes_arg (P := Try.prog) wr 60 5 Try.underlying60 Try.underlying5 w.heap.size 0 4 4 (partI r 4) (partI_len r 4) (fun i hi => by rw [Nat.zero_add]; exact HROW.out.cell i (by rw [partI_len]; exact hi)) 9 Try.underlying9
      rw [partI_end] at hcv
      go_wp2
      go_ret
      exact ⟨rfl, HB.out⟩

theorem text_any (r : Int) (w : World) (hw : (Lit.int .i64 r).wf = true) :
    Calls Try.prog 36 #[.int .i64 r] w fun e w' => e = .returned (.string (txt r)) ∧ Below w.heap.size w w' := by
  unfold txt
  by_cases h : isR r = true
  · rw [if_pos h]
    exact text_yes r w hw h
  · rw [if_neg h]
    exact text_no r w hw h
end Go.Proofs.Ytmicdinibeddmaa
