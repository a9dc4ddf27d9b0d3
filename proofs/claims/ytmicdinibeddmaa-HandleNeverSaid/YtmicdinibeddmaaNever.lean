/-
  Plain laws of handles, places and bumps: what a bump leaves of a handle. No program in sight.
-/
import Derived.Test.YtmicdinibeddmaaHandLive
namespace Go.Proofs.Ytmicdinibeddmaa
open Go.RowKit

theorem ofV_of {L : List Int} {j : Int} (h : ofE L j = 0) : ofV L j = L.getD j.toNat 0 * 64 + j := by
  have hi := ofE_in h
  have h1 : inB L j = true := by simp [inB]; omega
  have h2 : genB (L.getD j.toNat 0) = true := by
    unfold genB
    exact decide_eq_true (by omega)
  unfold ofV
  rw [if_pos h1, if_pos h2]

theorem isV_ofV {L L' : List Int} {j : Nat} (h : ofE L j = 0) : isV L' (ofV L j) = (decide (j < L'.length) && decide (L'.getD j 0 = L.getD j 0)) := by
  have hi := ofE_in h
  have e := ofV_of h
  rw [Int.toNat_natCast] at hi e
  have hb : hB (ofV L j) = true := by rw [e]; unfold hB; exact decide_eq_true (by omega)
  have e3 : parO (ofV L j) = j := by unfold parO; rw [if_pos hb, e]; omega
  have e4 : parG (ofV L j) = L.getD j 0 := by unfold parG; rw [if_pos hb, e]; omega
  unfold isV
  rw [hb, e3, e4, Int.toNat_natCast]
  simp

theorem next_ne {z : Int} (h0 : 0 ≤ z) : ¬ nextV z = z := by
  unfold nextV
  by_cases h : 0 ≤ z ∧ z ≤ 4094
  · rw [if_pos h]
    omega
  · rw [if_neg h]
    omega

theorem bumpL_len (L : List Int) (y : Int) : (bumpL L y).length = L.length := by
  unfold bumpL
  by_cases h : ofE L y = 0
  · rw [if_pos h, List.length_set]
  · rw [if_neg h]

theorem getD_set_other {L : List Int} {i j : Nat} (z : Int) (h : i ≠ j) : (L.set i z).getD j 0 = L.getD j 0 := by
  simp [List.getD_eq_getElem?_getD, List.getElem?_set_ne h]
theorem getD_set_same {L : List Int} {i : Nat} (z : Int) (h : i < L.length) : (L.set i z).getD i 0 = z := by
  simp [List.getD_eq_getElem?_getD, h]

theorem never_step {L : List Int} {y : Int} {j : Nat} (hE : ofE L j = 0) :
    (ofE L y = 0 ∧ (j : Int) = y ∧ isV (bumpL L y) (ofV L j) = false) ∨ (ofE L y = 0 ∧ (j : Int) ≠ y ∧ isV (bumpL L y) (ofV L j) = true) ∨ (ofE L y ≠ 0 ∧ isV (bumpL L y) (ofV L j) = true) := by
  have hj := ofE_in hE
  rw [Int.toNat_natCast] at hj
  rw [isV_ofV hE, bumpL_len]
  have hjl : j < L.length := by omega
  by_cases hy : ofE L y = 0
  · have hi := ofE_in hy
    unfold bumpL
    rw [if_pos hy]
    by_cases e : (j : Int) = y
    · subst e
      rw [Int.toNat_natCast, getD_set_same _ hjl]
      refine .inl ⟨hy, rfl, ?_⟩
      rw [decide_eq_false (next_ne hj.2.2.2.1), Bool.and_false]
    · refine .inr (.inl ⟨hy, e, ?_⟩)
      rw [getD_set_other _ (by omega)]
      simp [hjl]
  · refine .inr (.inr ⟨hy, ?_⟩)
    unfold bumpL
    rw [if_neg hy]
    simp [hjl]

/-- The place's generation is past z0: retired, or greater. -/
def Past (z0 : Int) (o : Nat) (L : List Int) : Prop := L.getD o 0 < 0 ∨ z0 < L.getD o 0

theorem past_first {L : List Int} {o : Nat} (h : ofE L o = 0) : Past (L.getD o 0) o (bumpL L o) := by
  have hi := ofE_in h
  rw [Int.toNat_natCast] at hi
  unfold Past bumpL
  rw [if_pos h, Int.toNat_natCast, getD_set_same _ (by omega)]
  unfold nextV
  by_cases h1 : 0 ≤ L.getD o 0 ∧ L.getD o 0 ≤ 4094
  · rw [if_pos h1]
    omega
  · rw [if_neg h1]
    omega

theorem past_step {z0 : Int} {o : Nat} {L : List Int} (y : Int) (h : Past z0 o L) : Past z0 o (bumpL L y) := by
  by_cases hy : ofE L y = 0
  · have hi := ofE_in hy
    unfold Past bumpL
    rw [if_pos hy]
    by_cases e : y.toNat = o
    · rw [e] at hi ⊢
      rw [getD_set_same _ (by omega)]
      unfold nextV
      unfold Past at h
      by_cases h1 : 0 ≤ L.getD o 0 ∧ L.getD o 0 ≤ 4094
      · rw [if_pos h1]
        omega
      · rw [if_neg h1]
        omega
    · rw [getD_set_other _ e]
      exact h
  · unfold bumpL
    rw [if_neg hy]
    exact h

theorem past_not {L0 L : List Int} {o : Nat} (hE : ofE L0 o = 0) (h : Past (L0.getD o 0) o L) : isV L (ofV L0 o) = false := by
  have hi := ofE_in hE
  rw [Int.toNat_natCast] at hi
  rw [isV_ofV hE]
  have h1 : ¬ L.getD o 0 = L0.getD o 0 := by
    unfold Past at h
    omega
  rw [decide_eq_false h1, Bool.and_false]

theorem self_is {L : List Int} {o : Nat} (hE : ofE L o = 0) : isV L (ofV L o) = true := by
  have hi := ofE_in hE
  rw [isV_ofV hE]
  have : o < L.length := by omega
  simp [this]

theorem quietL {P : Program} {f : FuncId} {args : Array Value} {w : World} {n : Nat} {v : Value}
    (h : Calls P f args (w.drewN n) fun e w' => e = .returned v ∧ w.drewN n = w') : Calls P f args (w.drewN n) fun e w'' => e = .returned v ∧ ∃ m, w'' = w.drewN m :=
  h.mono fun _ _ ⟨he, hm⟩ => ⟨he, n, hm.symm⟩

theorem Rd.drewN {w : World} {B : Nat} {A : Option Addr} {n : Nat} {zs : List Int} (h : Rd w B A n zs) (k : Nat) : Rd (w.drewN k) B A n zs := h.keep fun _ _ => rfl
end Go.Proofs.Ytmicdinibeddmaa
