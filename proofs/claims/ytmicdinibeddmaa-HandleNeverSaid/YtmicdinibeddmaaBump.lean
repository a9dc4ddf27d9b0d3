/-
  What handle.Bump answers: a new list with the next generation at the place, and the errors of Of; for every list of at most 1000 ints.
-/
import Derived.Test.YtmicdinibeddmaaMem
namespace Go.Proofs.Ytmicdinibeddmaa
open Go.RowKit

def bumpL (zs : List Int) (o : Int) : List Int := if ofE zs o = 0 then zs.set o.toNat (nextV (zs.getD o.toNat 0)) else zs

theorem Try.info3 : (Try.prog.info? 3).map (fun i => (i.zero, i.size, i.bytes)) = some (some (.int .i64 0), 1, 8) := by kernel_rfl
theorem Try.size3 : (Try.prog.info? 3).map (·.size) = some 1 := by kernel_rfl

/-- The cells of a new list of n zeros. -/
def zeros (n : Nat) : Array Value := (List.replicate n (Value.int .i64 0)).toArray

theorem make_ints (n : Nat) (hn : n ≤ 1000) (w : World) :
    (Instr.makeSlice 36 (.int .i64 (n : Int)) (.int .i64 (n : Int))).run Try.prog w = .ok (.slice (some ⟨w.heap.size, 0, none⟩) n n) (w.alloc (.cells (zeros n) 3)) := by
  obtain ⟨i, hi, hz, hs, hb⟩ := info_parts Try.info3
  have h := run_make (P := Try.prog) w 36 3 i (.int .i64 0) Try.underlying36 hi hz .i64 .i64 n n (by omega) (by omega) (by rw [hb]; omega) (by omega)
  rw [h, hs]
  simp only [Int.toNat_natCast, Nat.mul_one]
  congr 3
  apply Array.ext'
  simp [toList_madeCells_one, Value.cells, zeros]

theorem zeros_heap (n : Nat) (w : World) : (w.alloc (.cells (zeros n) 3)).heap[w.heap.size]? = some (.cells (List.replicate n (Value.int .i64 0)).toArray 3 (0, 0)) := heap_alloc_new w _

theorem copied {w w1 : World} {n : Nat} {zs : List Int} (hl : zs.length = n)
    (hg : Hid (w1.heap[w.heap.size]? = some (.cells (splice (List.replicate n (Value.int .i64 0)) 0 (zs.map (Value.int .i64))).toArray 3 (0, 0)))) : Row w1 w.heap.size zs := by
  have h := hg.out
  unfold Row
  rw [h]
  simp [splice, hl]

theorem src_cells {w : World} {A : Option Addr} {n : Nat} {zs : List Int} (hr : Rd w w.heap.size A n zs) (o : Obj) :
    0 < (zs.map (Value.int .i64)).length → (some (⟨w.heap.size, 0, none⟩ : Addr) = some ⟨w.heap.size, 0, none⟩ ∧ ∃ ad, A = some ad ∧ ∀ j v, (zs.map (Value.int .i64))[j]? = some v → (w.alloc o).cell? (ad.add j) = some v) := by
  intro h
  obtain ⟨hl, _, hx⟩ := hr
  obtain ⟨b, off, rfl, hb, hc⟩ := hx (by simp at h; omega)
  refine ⟨rfl, _, rfl, fun j v hj => ?_⟩
  have hjl : j < zs.length := by
    have := (List.getElem?_eq_some_iff.1 hj).1
    simpa using this
  have hv : v = .int .i64 (zs.getD j 0) := by
    simp [hjl] at hj
    simp [List.getD_eq_getElem?_getD, hjl, hj]
  have e : (⟨b, off, none⟩ : Addr).add j = ⟨b, off + j, none⟩ := by
    unfold Addr.add
    by_cases h0 : j = 0
    · simp [h0]
    · simp [h0]
  rw [e, World.cell?_alloc_lt w o ⟨b, off + j, none⟩ hb, hc j (by omega), hv]

/-- How a call of Bump ends. -/
def Bumped (zs : List Int) (o : Int) (n : Nat) (w : World) (e : Ending) (w' : World) : Prop :=
  ∃ A' c', e = .returned (.tuple #[.slice A' n c', .int .i64 (ofE zs o)]) ∧ Rd w' w'.heap.size A' n (bumpL zs o) ∧ Below w.heap.size w w'

theorem bumped_no {zs : List Int} {o : Int} {n : Nat} {w w1 : World} (he : ¬ ofE zs o = 0) (hl : zs.length = n) (hw : ∀ z ∈ zs, (Lit.int .i64 z).wf = true) (hg : Row w1 w.heap.size zs) (hb : Below w.heap.size w w1) :
    Bumped zs o n w (.returned (.tuple #[.slice (some ⟨w.heap.size, 0, none⟩) n n, .int .i64 (ofE zs o)])) w1 := by
  refine ⟨_, _, rfl, ?_, hb⟩
  unfold bumpL
  rw [if_neg he, ← hl]
  exact hg.rd hg.lt hw

theorem oneCells (zs : List Int) : ∀ v ∈ zs.map (Value.int .i64), v.oneCell' = true := by
  intro v hv
  obtain ⟨z, _, rfl⟩ := List.mem_map.1 hv
  rfl

set_option maxHeartbeats 400000 in
theorem bump_no (A : Option Addr) (n c : Nat) (zs : List Int) (o : Int) (w : World) (hr : Rd w w.heap.size A n zs) (hn : n ≤ 1000) (he : ¬ ofE zs o = 0) :
    Calls Try.prog 30 #[.slice A n c, .int .i64 o] w (Bumped zs o n w) := by
  have hmk := make_ints n hn
  have he' : (ofE zs o != 0) = true := by simp [he]
  have HE := hid he
  have HR := hid hr
  have HL := hid hr.len
  have hsrc := hid (src_cells hr (.cells (zeros n) 3))
  have hcl : Hid ((zs.map (Value.int .i64)).length = Nat.min n n) := by
    have := hr.len
    show (zs.map (Value.int .i64)).length = min n n
    simp
    omega
  have hfit : Hid (0 + (zs.map (Value.int .i64)).length ≤ (List.replicate n (Value.int .i64 0)).length) := by
    have := hr.len
    show _ ≤ _
    simp
    omega
  clear he hr
  go_enter Try.func30, Try.ntmps30
  go_wp2_with (first
    | (refine wpList_copy_splice rfl (.tmp 12) (.tmp 13) 36 36 rfl 3 Try.underlying36 Try.size3 (some ⟨w.heap.size, 0, none⟩) A n n n c rfl rfl w.heap.size 0 (List.replicate n (Value.int .i64 0)) 3 (zeros_heap n w) (zs.map (Value.int .i64)) hcl.out hsrc.out hfit.out (oneCells zs) w.heap.size w ((Below.refl _ _).alloc (Nat.le_refl _) _) (Nat.le_refl _) ?_; intro w1 hg1 hb1)
    | (go_at_call 29; refine (of_any _ _ _ w.heap.size zs _ _ (HR.out.below hb1)).mono ?_; rintro e w' ⟨rfl, rfl⟩))
  go_ret2
  exact bumped_no HE.out HL.out HR.out.2.1 (copied HL.out hg1) hb1
theorem next_wf (z : Int) : (Lit.int .i64 (nextV z)).wf = true := by
  unfold nextV
  by_cases h : 0 ≤ z ∧ z ≤ 4094
  · rw [if_pos h]
    exact WalkArith.wf_i64 (by omega)
  · rw [if_neg h]
    decide

theorem bumped_yes {zs : List Int} {k n : Nat} {w w1 : World} (he : ofE zs k = 0) (hl : zs.length = n) (hw : ∀ z ∈ zs, (Lit.int .i64 z).wf = true) (hg : Row w1 w.heap.size zs) (hb : Below w.heap.size w w1) :
    Bumped zs k n w (.returned (.tuple #[.slice (some ⟨w.heap.size, 0, none⟩) n n, .int .i64 0])) (w1.setCell ⟨w.heap.size, k, none⟩ (.int .i64 (nextV (zs.getD k 0)))) := by
  refine ⟨_, _, by rw [he], ?_, hb.setCell (Nat.le_refl _) _⟩
  unfold bumpL
  rw [if_pos he, Int.toNat_natCast]
  have h2 := hg.set_ k (nextV (zs.getD k 0))
  have h3 := h2.rd h2.lt (by
    intro z hz
    rcases List.mem_or_eq_of_mem_set hz with h | h
    · exact hw z h
    · rw [h]
      exact next_wf _)
  rw [List.length_set, hl] at h3
  exact h3

set_option maxHeartbeats 400000 in
theorem bump_yes (b off n c k : Nat) (zs : List Int) (w : World) (hr : Rd w w.heap.size (some ⟨b, off, none⟩) n zs) (hn : n ≤ 1000) (hk : k < n) (hc : ∀ i, i < n → w.cell? ⟨b, off + i, none⟩ = some (.int .i64 (zs.getD i 0))) (hB : b < w.heap.size) (he : ofE zs k = 0) :
    Calls Try.prog 30 #[.slice (some ⟨b, off, none⟩) n c, .int .i64 k] w (Bumped zs k n w) := by
  have hmk := make_ints n hn
  have HR := hid hr
  have HE := hid he
  have HL := hid hr.len
  have HC := hid (hc k hk)
  have hsrc := hid (src_cells hr (.cells (zeros n) 3))
  have hcl : Hid ((zs.map (Value.int .i64)).length = Nat.min n n) := by
    have := hr.len
    show (zs.map (Value.int .i64)).length = min n n
    simp
    omega
  have hfit : Hid (0 + (zs.map (Value.int .i64)).length ≤ (List.replicate n (Value.int .i64 0)).length) := by
    have := hr.len
    show _ ≤ _
    simp
    omega
  have hkl : k < zs.length := by have := hr.len; omega
  have HKL := hid hkl
  obtain ⟨z, hz⟩ : ∃ z, z = zs.getD k 0 := ⟨_, rfl⟩
  have HZ := hid hz
  clear hr hc hz hkl
  go_enter Try.func30, Try.ntmps30
  go_wp2_with (first
    | (refine wpList_copy_splice rfl (.tmp 12) (.tmp 13) 36 36 rfl 3 Try.underlying36 Try.size3 (some ⟨w.heap.size, 0, none⟩) (some ⟨b, off, none⟩) n n n c rfl rfl w.heap.size 0 (List.replicate n (Value.int .i64 0)) 3 (zeros_heap n w) (zs.map (Value.int .i64)) hcl.out hsrc.out hfit.out (oneCells zs) w.heap.size w ((Below.refl _ _).alloc (Nat.le_refl _) _) (Nat.le_refl _) ?_; intro w1 hg1 hb1; have hc1 : w1.cell? ⟨b, off + k, none⟩ = some (.int .i64 z) := (by rw [hb1.cell hB, HC.out, HZ.out]); have hc2 : w1.cell? ⟨w.heap.size, k, none⟩ = some (.int .i64 z) := (by rw [(copied HL.out hg1).cell k HKL.out, HZ.out]); have hc3 : w1.frozen? ⟨w.heap.size, k, none⟩ = false := (copied HL.out hg1).free k)
    | (go_at_call 29; refine (of_any _ _ _ w.heap.size zs _ _ (HR.out.below hb1)).mono ?_; rintro e w' ⟨rfl, rfl⟩)
    | (go_at_call 20; refine (next_any _ _).mono ?_; rintro e w' ⟨rfl, rfl⟩))
  go_ret2
  have h := bumped_yes HE.out HL.out HR.out.2.1 (copied HL.out hg1) hb1
  rw [← HZ.out] at h
  exact h

theorem ofE_in {zs : List Int} {o : Int} (h : ofE zs o = 0) : 0 ≤ o ∧ o < zs.length ∧ o < 64 ∧ 0 ≤ zs.getD o.toNat 0 ∧ zs.getD o.toNat 0 ≤ 4095 := by
  unfold ofE at h
  by_cases hi : inB zs o = true
  · rw [if_pos hi] at h
    by_cases hg : genB (zs.getD o.toNat 0) = true
    · have h1 : 0 ≤ o ∧ o < zs.length ∧ o < 64 := by simpa [inB] using hi
      have h2 : 0 ≤ zs.getD o.toNat 0 ∧ zs.getD o.toNat 0 ≤ 4095 := by
        unfold genB at hg
        exact of_decide_eq_true hg
      omega
    · rw [if_neg hg] at h
      omega
  · rw [if_neg hi] at h
    omega

theorem bump_any (A : Option Addr) (n c : Nat) (zs : List Int) (o : Int) (w : World) (hr : Rd w w.heap.size A n zs) (hn : n ≤ 1000) :
    Calls Try.prog 30 #[.slice A n c, .int .i64 o] w (Bumped zs o n w) := by
  by_cases he : ofE zs o = 0
  · have hi := ofE_in he
    obtain ⟨k, rfl⟩ := Int.eq_ofNat_of_zero_le hi.1
    have hl := hr.len
    have hk : k < n := by omega
    obtain ⟨b, off, rfl, hB, hc⟩ := hr.2.2 (by omega)
    exact bump_yes b off n c k zs w hr hn hk hc hB he
  · exact bump_no A n c zs o w hr hn he
end Go.Proofs.Ytmicdinibeddmaa
