/-
  Plain laws of texts and rights: which texts are some rights' text, and whose. No program in sight.
-/
import Derived.Test.YtmicdinibeddmaaText2
namespace Go.Proofs.Ytmicdinibeddmaa
open Go.RowKit

def byteAt (s : ByteArray) (j : Nat) : UInt8 := s.toList.getD j 0
def gotB (s : ByteArray) (j : Nat) : Bool := byteAt s j == sign j
def okB (s : ByteArray) (j : Nat) : Bool := byteAt s j == sign j || byteAt s j == 45

theorem byteAt_eq (s : ByteArray) (j : Nat) (h : j < s.size) : byteAt s j = s[j] := by
  unfold byteAt
  rw [ByteArray.toList_eq]
  have h1 : j < s.data.toList.length := by simpa using h
  simp [List.getD_eq_getElem?_getD]
  rw [Array.getElem?_eq_getElem (by simpa using h)]
  rfl

theorem txtK_list (r : Int) : (txtK r 4).toList = [chr r 0, chr r 1, chr r 2, chr r 3] := by
  unfold txtK
  rw [ByteArray.toList_mk]
  rfl
theorem four_list {s : ByteArray} (h : s.size = 4) : s.toList = [byteAt s 0, byteAt s 1, byteAt s 2, byteAt s 3] := by
  have h1 : s.toList.length = 4 := by
    rw [ByteArray.toList_eq]
    simpa using h
  unfold byteAt
  match s.toList, h1 with
  | [a, b, c, d], _ => rfl

theorem sign_ne (j : Nat) : sign j ≠ 45 := by
  match j with
  | 0 => decide
  | 1 => decide
  | 2 => decide
  | _ + 3 => show (99 : UInt8) ≠ 45; decide
theorem chr_sign (r : Int) (j : Nat) : (chr r j == sign j) = hasB r j := by
  unfold chr
  by_cases h : hasB r j = true
  · rw [if_pos h, h]
    simp
  · rw [if_neg h]
    have h2 : hasB r j = false := by simpa using h
    rw [h2]
    have := sign_ne j
    simp
    exact fun e => this e.symm
theorem chr_ok (r : Int) (j : Nat) : (chr r j == sign j || chr r j == 45) = true := by
  unfold chr
  by_cases h : hasB r j = true
  · rw [if_pos h]
    simp
  · rw [if_neg h]
    simp

theorem telB_iff {s : ByteArray} {k : Nat} (hk : k < 16) : telB s k = true ↔ s.size = 4 ∧ ∀ j, j < 4 → byteAt s j = chr (k : Int) j := by
  have hr : isR (k : Int) = true := by rw [isR_iff]; omega
  unfold telB txt
  rw [if_pos hr, txtK_list, beq_iff_eq]
  constructor
  · intro h
    have h1 : s.size = 4 := by
      have h2 : s.toList.length = 4 := by rw [← h]; rfl
      rw [ByteArray.toList_eq] at h2
      simpa using h2
    refine ⟨h1, fun j hj => ?_⟩
    unfold byteAt
    rw [← h]
    match j, hj with
    | 0, _ => rfl
    | 1, _ => rfl
    | 2, _ => rfl
    | 3, _ => rfl
  · rintro ⟨h1, h2⟩
    rw [four_list h1, h2 0 (by omega), h2 1 (by omega), h2 2 (by omega), h2 3 (by omega)]

theorem has_sum (p : Nat → Bool) {j : Nat} (hj : j < 4) : hasB (sumB p 4) j = p j := by
  have key : ∀ a b c d : Bool, ∀ j : Fin 4, hasB (sumB (fun i => match i with | 0 => a | 1 => b | 2 => c | _ => d) 4) j.val = (match j.val with | 0 => a | 1 => b | 2 => c | _ => d) := by decide +kernel
  have h := key (p 0) (p 1) (p 2) (p 3) ⟨j, hj⟩
  have e : sumB (fun i => match i with | 0 => p 0 | 1 => p 1 | 2 => p 2 | _ => p 3) 4 = sumB p 4 := sumB_congr 4 fun i hi => by
    match i, hi with
    | 0, _ => rfl
    | 1, _ => rfl
    | 2, _ => rfl
    | 3, _ => rfl
  rw [e] at h
  rw [h]
  match j, hj with
  | 0, _ => rfl
  | 1, _ => rfl
  | 2, _ => rfl
  | 3, _ => rfl
theorem sum_isR (p : Nat → Bool) : isR (sumB p 4) = true := by
  have h := sumB_range p 4
  have e : (2 : Int) ^ 4 = 16 := by decide
  rw [isR_iff]
  omega

theorem parse_good {s : ByteArray} (h : s.size = 4) (hok : ∀ j, j < 4 → okB s j = true) : parV s = sumB (gotB s) 4 ∧ parF s = 0 := by
  have hR := sum_isR (gotB s)
  have hr := isR_iff.1 hR
  obtain ⟨k, hk⟩ := Int.eq_ofNat_of_zero_le hr.1
  have hk16 : k < 16 := by omega
  have hb : ∀ j, j < 4 → byteAt s j = chr (k : Int) j := by
    intro j hj
    have h1 := has_sum (gotB s) hj
    rw [hk] at h1
    have h2 := hok j hj
    unfold okB at h2
    unfold chr
    rw [h1]
    unfold gotB
    by_cases h3 : byteAt s j = sign j
    · simp [h3]
    · simp [h3] at h2
      simp [h2]
  have ht : telB s k = true := (telB_iff hk16).2 ⟨h, hb⟩
  have hu : ∀ j, j < k → telB s j = false := by
    intro j hj
    cases h1 : telB s j
    · rfl
    · have h2 := (telB_iff (by omega)).1 h1
      have e : ((j : Nat) : Int) = (k : Int) := has_ext (by rw [isR_iff]; omega) (by rw [isR_iff]; omega) fun i hi => by
        rw [← chr_sign, ← chr_sign, ← h2.2 i hi, ← hb i hi]
      omega
  have h3 := tel_some hk16 ht hu
  rw [hk]
  exact h3
theorem parse_bad {s : ByteArray} (h : s.size ≠ 4 ∨ ∃ j, j < 4 ∧ okB s j = false) : parV s = 0 ∧ parF s = 20 := by
  refine tel_none fun k hk => ?_
  cases h1 : telB s k
  · rfl
  · have h2 := (telB_iff hk).1 h1
    rcases h with h | ⟨j, hj, hn⟩
    · exact absurd h2.1 h
    · have h3 := chr_ok (k : Int) j
      rw [← h2.2 j hj] at h3
      unfold okB at hn
      rw [hn] at h3
      cases h3
theorem or_step {p : Nat → Bool} {k : Nat} (hk : k < 4) (h : p k = true) : bits .or .i64 (sumB p k) (2 ^ k) = sumB p (k + 1) := by
  have h1 := sumB_range p k
  have e : sumB p (k + 1) = sumB p k + 2 ^ k := by
    show (if p k = true then sumB p k + 2 ^ k else sumB p k) = _
    rw [if_pos h]
  rw [e]
  have key : ∀ z : Fin 4, ∀ x : Fin 16, (x.val : Int) < 2 ^ z.val → bits .or .i64 (x.val : Int) (2 ^ z.val) = (x.val : Int) + 2 ^ z.val := by decide +kernel
  have h16 : (2 : Int) ^ k ≤ 8 := by
    obtain ⟨z, rfl⟩ := fin4 hk
    clear hk h h1 e
    revert z
    decide
  have hx : isR (sumB p k) = true := by rw [isR_iff]; omega
  obtain ⟨x, hxx⟩ := fin16 hx
  rw [hxx] at h1 ⊢
  exact key ⟨k, hk⟩ x h1.2
end Go.Proofs.Ytmicdinibeddmaa
