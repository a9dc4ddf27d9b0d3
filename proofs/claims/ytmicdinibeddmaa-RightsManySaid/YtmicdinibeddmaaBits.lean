/-
  Plain laws of rights as numbers: four bits each. No program in sight.
-/
import Derived.Test.YtmicdinibeddmaaBase
namespace Go.Proofs.Ytmicdinibeddmaa
open Go.RowKit

/-- Is it rights? -/
def isR (r : Int) : Bool := decide (0 ≤ r ∧ r ≤ 15)
/-- Has r the k-th of the four? -/
def hasB (r : Int) (k : Nat) : Bool := decide (r / 2 ^ k % 2 = 1)
def andI (a b : Int) : Int := bits .and .i64 a b
def orI (a b : Int) : Int := bits .or .i64 a b
def subI (a b : Int) : Int := bits .andNot .i64 a b

theorem isR_iff {r : Int} : isR r = true ↔ 0 ≤ r ∧ r ≤ 15 := by unfold isR; exact decide_eq_true_iff
theorem fin16 {r : Int} (h : isR r = true) : ∃ x : Fin 16, r = (x.val : Int) := by
  have h := isR_iff.1 h
  exact ⟨⟨r.toNat, by omega⟩, by simp; omega⟩
theorem isR_fin (x : Fin 16) : isR (x.val : Int) = true := by
  rw [isR_iff]
  omega
theorem isR_no {r : Int} (h : ¬ isR r = true) : isR r = false := by simpa using h

theorem and_hi (x : Nat) (hx : x < 18446744073709551616) : (x &&& 18446744073709551600 = 0) ↔ x < 16 := by
  constructor
  · intro h
    have h1 : (x &&& 18446744073709551600) >>> 4 = (x >>> 4) &&& (18446744073709551600 >>> 4) := Nat.shiftRight_and_distrib
    have h2 : (18446744073709551600 : Nat) >>> 4 = 2 ^ 60 - 1 := by decide
    rw [h, h2, Nat.and_two_pow_sub_one_eq_mod, Nat.shiftRight_eq_div_pow, Nat.shiftRight_eq_div_pow] at h1
    omega
  · intro h
    have : ∀ y : Fin 16, y.val &&& 18446744073709551600 = 0 := by decide +kernel
    exact this ⟨x, h⟩

theorem sub15 {r : Int} (h : (Lit.int .i64 r).wf = true) : (bits .andNot .i64 r 15 == 0) = isR r := by
  have hb : -9223372036854775808 ≤ r ∧ r ≤ 9223372036854775807 := by
    simpa [Lit.wf, IntKind.min, IntKind.max, IntKind.signed, IntKind.bits] using h
  have e : bits .andNot .i64 r 15 = IntKind.i64.wrap (((BitVec.ofInt 64 r).toNat &&& 18446744073709551600 : Nat) : Int) := by
    show IntKind.i64.wrap ((BitVec.ofInt 64 r &&& ~~~BitVec.ofInt 64 15).toNat : Int) = _
    rw [BitVec.toNat_and]
    rfl
  have hx : (BitVec.ofInt 64 r).toNat < 18446744073709551616 := (BitVec.ofInt 64 r).isLt
  have hv : ((BitVec.ofInt 64 r).toNat : Int) = r % 18446744073709551616 := by
    rw [BitVec.toNat_ofInt]
    omega
  have hy : (BitVec.ofInt 64 r).toNat &&& 18446744073709551600 < 18446744073709551616 := Nat.lt_of_le_of_lt Nat.and_le_left hx
  have hi := and_hi _ hx
  rw [e, IntKind.wrap_i64, Bool.eq_iff_iff, beq_iff_eq, isR_iff]
  generalize (BitVec.ofInt 64 r).toNat &&& 18446744073709551600 = y at *
  generalize (BitVec.ofInt 64 r).toNat = x at *
  omega

theorem and_isR {a b : Int} (ha : isR a = true) (hb : isR b = true) : isR (andI a b) = true := by
  obtain ⟨x, rfl⟩ := fin16 ha
  obtain ⟨y, rfl⟩ := fin16 hb
  revert x y
  decide +kernel
theorem or_isR {a b : Int} (ha : isR a = true) (hb : isR b = true) : isR (orI a b) = true := by
  obtain ⟨x, rfl⟩ := fin16 ha
  obtain ⟨y, rfl⟩ := fin16 hb
  revert x y
  decide +kernel
theorem sub_isR {a b : Int} (ha : isR a = true) (hb : isR b = true) : isR (subI a b) = true := by
  obtain ⟨x, rfl⟩ := fin16 ha
  obtain ⟨y, rfl⟩ := fin16 hb
  revert x y
  decide +kernel

theorem fin4 {k : Nat} (h : k < 4) : ∃ x : Fin 4, k = x.val := ⟨⟨k, h⟩, rfl⟩
theorem has_and {a b : Int} (ha : isR a = true) (hb : isR b = true) {k : Nat} (hk : k < 4) : hasB (andI a b) k = (hasB a k && hasB b k) := by
  obtain ⟨x, rfl⟩ := fin16 ha
  obtain ⟨y, rfl⟩ := fin16 hb
  obtain ⟨z, rfl⟩ := fin4 hk
  clear ha hb hk
  revert x y z
  decide +kernel
theorem has_or {a b : Int} (ha : isR a = true) (hb : isR b = true) {k : Nat} (hk : k < 4) : hasB (orI a b) k = (hasB a k || hasB b k) := by
  obtain ⟨x, rfl⟩ := fin16 ha
  obtain ⟨y, rfl⟩ := fin16 hb
  obtain ⟨z, rfl⟩ := fin4 hk
  clear ha hb hk
  revert x y z
  decide +kernel
theorem has_sub {a b : Int} (ha : isR a = true) (hb : isR b = true) {k : Nat} (hk : k < 4) : hasB (subI a b) k = (hasB a k && !hasB b k) := by
  obtain ⟨x, rfl⟩ := fin16 ha
  obtain ⟨y, rfl⟩ := fin16 hb
  obtain ⟨z, rfl⟩ := fin4 hk
  clear ha hb hk
  revert x y z
  decide +kernel
theorem has_ext {a b : Int} (ha : isR a = true) (hb : isR b = true) (h : ∀ k, k < 4 → hasB a k = hasB b k) : a = b := by
  obtain ⟨x, rfl⟩ := fin16 ha
  obtain ⟨y, rfl⟩ := fin16 hb
  have h0 := h 0 (by omega)
  have h1 := h 1 (by omega)
  have h2 := h 2 (by omega)
  have h3 := h 3 (by omega)
  clear ha hb h
  revert x y
  decide +kernel

/-- Those of the first k for which p says yes, added up. -/
def sumB (p : Nat → Bool) : Nat → Int
  | 0 => 0
  | k + 1 => if p k = true then sumB p k + 2 ^ k else sumB p k

theorem sumB_four {a : Int} (ha : isR a = true) : a = sumB (hasB a) 4 := by
  obtain ⟨x, rfl⟩ := fin16 ha
  clear ha
  revert x
  decide +kernel
theorem sumB_congr {p q : Nat → Bool} (k : Nat) (h : ∀ j, j < k → p j = q j) : sumB p k = sumB q k := by
  induction k with
  | zero => rfl
  | succ k ih =>
    unfold sumB
    rw [ih (fun j hj => h j (by omega)), h k (by omega)]
theorem sumB_range (p : Nat → Bool) (k : Nat) : 0 ≤ sumB p k ∧ sumB p k < 2 ^ k := by
  induction k with
  | zero => simp [sumB]
  | succ k ih =>
    have e : (2 : Int) ^ (k + 1) = 2 * 2 ^ k := by rw [Int.pow_succ]; omega
    have h0 : (0 : Int) < 2 ^ k := Int.pow_pos (by omega)
    unfold sumB
    by_cases h : p k = true
    · rw [if_pos h, e]
      omega
    · rw [if_neg h, e]
      omega

end Go.Proofs.Ytmicdinibeddmaa
