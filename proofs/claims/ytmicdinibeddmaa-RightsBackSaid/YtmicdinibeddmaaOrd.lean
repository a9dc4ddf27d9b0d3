/-
  Plain laws of rights: within, what meets, what is joined, what is left. No program in sight.
-/
import Derived.Test.YtmicdinibeddmaaRtsLive
namespace Go.Proofs.Ytmicdinibeddmaa
open Go.RowKit

theorem wB_iff {a b : Int} : wB a b = true ↔ isR a = true ∧ isR b = true ∧ inR a b = true := by
  unfold wB
  rw [Bool.and_eq_true, Bool.and_eq_true, and_assoc]
theorem wB_self (a : Int) : wB a a = isR a := by
  unfold wB
  by_cases h : isR a = true
  · have h1 : inR a a = true := (inR_iff h h).2 fun _ _ h => h
    rw [h, h1]
    rfl
  · rw [isR_no h]
    rfl
theorem wB_bits {a b : Int} (ha : isR a = true) (hb : isR b = true) : wB a b = true ↔ ∀ k, k < 4 → hasB a k = true → hasB b k = true := by
  rw [wB_iff]
  constructor
  · intro h
    exact (inR_iff ha hb).1 h.2.2
  · intro h
    exact ⟨ha, hb, (inR_iff ha hb).2 h⟩
theorem wB_anti {a b : Int} (h1 : wB a b = true) (h2 : wB b a = true) : a = b := by
  have r := wB_iff.1 h1
  refine has_ext r.1 r.2.1 fun k hk => ?_
  have q1 := (wB_bits r.1 r.2.1).1 h1 k hk
  have q2 := (wB_bits r.2.1 r.1).1 h2 k hk
  cases h3 : hasB a k <;> cases h4 : hasB b k <;> simp_all
theorem wB_trans {a b c : Int} (h1 : wB a b = true) (h2 : wB b c = true) : wB a c = true := by
  have r := wB_iff.1 h1
  have r2 := wB_iff.1 h2
  exact (wB_bits r.1 r2.2.1).2 fun k hk h => (wB_bits r2.1 r2.2.1).1 h2 k hk ((wB_bits r.1 r.2.1).1 h1 k hk h)
theorem wB_le {a b : Int} (h : wB a b = true) : a ≤ b := by
  have r := wB_iff.1 h
  obtain ⟨x, rfl⟩ := fin16 r.1
  obtain ⟨y, rfl⟩ := fin16 r.2.1
  clear r
  revert x y
  decide +kernel
theorem wf_of_isR {a : Int} (h : isR a = true) : (Lit.int .i64 a).wf = true := by
  have := isR_iff.1 h
  exact WalkArith.wf_i64 (by omega)

theorem allR_two (a b : Int) : allR [a, b] = (isR a && isR b) := by
  unfold allR
  simp
theorem two_good {a b : Int} (ha : isR a = true) (hb : isR b = true) : allR [a, b] = true := by rw [allR_two, ha, hb]; rfl
theorem two_bad {a b : Int} (h : ¬ (isR a = true ∧ isR b = true)) : ¬ allR [a, b] = true := by
  rw [allR_two, Bool.and_eq_true]
  exact h
theorem meet_two {a b : Int} (ha : isR a = true) (hb : isR b = true) : isR (meetV [a, b]) = true ∧ ∀ k, k < 4 → hasB (meetV [a, b]) k = (hasB a k && hasB b k) := by
  have h := meetV_all (two_good ha hb)
  refine ⟨h.1, fun k hk => ?_⟩
  rw [h.2 k hk, allP_eq]
  simp
theorem join_two {a b : Int} (ha : isR a = true) (hb : isR b = true) : isR (joinV [a, b]) = true ∧ ∀ k, k < 4 → hasB (joinV [a, b]) k = (hasB a k || hasB b k) := by
  have h := joinV_all (two_good ha hb)
  refine ⟨h.1, fun k hk => ?_⟩
  rw [h.2 k hk, anyP_eq]
  simp

/-- What RightsOrder asks of two rights. -/
theorem order_plain {a b : Int} (ha : isR a = true) (hb : isR b = true) :
    wB (meetV [a, b]) a = true ∧ wB (meetV [a, b]) b = true ∧ wB a (joinV [a, b]) = true ∧ wB b (joinV [a, b]) = true := by
  obtain ⟨m1, m2⟩ := meet_two ha hb
  obtain ⟨j1, j2⟩ := join_two ha hb
  refine ⟨(wB_bits m1 ha).2 fun k hk h => ?_, (wB_bits m1 hb).2 fun k hk h => ?_, (wB_bits ha j1).2 fun k hk h => ?_, (wB_bits hb j1).2 fun k hk h => ?_⟩
  · rw [m2 k hk, Bool.and_eq_true] at h
    exact h.1
  · rw [m2 k hk, Bool.and_eq_true] at h
    exact h.2
  · rw [j2 k hk, h]
    rfl
  · rw [j2 k hk, h, Bool.or_true]
theorem order_meet {a b c : Int} (ha : isR a = true) (hb : isR b = true) : wB c (meetV [a, b]) = (wB c a && wB c b) := by
  obtain ⟨m1, m2⟩ := meet_two ha hb
  rw [Bool.eq_iff_iff, Bool.and_eq_true]
  constructor
  · intro h
    obtain ⟨p1, p2, _, _⟩ := order_plain ha hb
    exact ⟨wB_trans h p1, wB_trans h p2⟩
  · rintro ⟨h1, h2⟩
    have hc := (wB_iff.1 h1).1
    refine (wB_bits hc m1).2 fun k hk h => ?_
    rw [m2 k hk, (wB_bits hc ha).1 h1 k hk h, (wB_bits hc hb).1 h2 k hk h]
    rfl
theorem order_join {a b c : Int} (h1 : wB a c = true) (h2 : wB b c = true) : wB (joinV [a, b]) c = true := by
  have r1 := wB_iff.1 h1
  have r2 := wB_iff.1 h2
  obtain ⟨j1, j2⟩ := join_two r1.1 r2.1
  refine (wB_bits j1 r1.2.1).2 fun k hk h => ?_
  rw [j2 k hk, Bool.or_eq_true] at h
  rcases h with h | h
  · exact (wB_bits r1.1 r1.2.1).1 h1 k hk h
  · exact (wB_bits r2.1 r1.2.1).1 h2 k hk h

theorem lessV_good {a b : Int} (ha : isR a = true) (hb : isR b = true) : lessV a b = subI a b ∧ lessE a b = 0 := by
  have e : lessB a b = true := by unfold lessB; rw [ha, hb]; rfl
  unfold lessV lessE
  rw [if_pos e, if_pos e]
  exact ⟨rfl, rfl⟩
theorem lessV_bad {a b : Int} (h : ¬ (isR a = true ∧ isR b = true)) : lessV a b = 0 ∧ lessE a b = 20 := by
  have e : ¬ lessB a b = true := by unfold lessB; rw [Bool.and_eq_true]; exact h
  unfold lessV lessE
  rw [if_neg e, if_neg e]
  exact ⟨rfl, rfl⟩
/-- What RightsLess asks of two rights. -/
theorem less_plain {a b : Int} (ha : isR a = true) (hb : isR b = true) :
    isR (subI a b) = true ∧ isR (meetV [a, b]) = true ∧ meetV [subI a b, b] = 0 ∧ joinV [subI a b, meetV [a, b]] = a ∧ wB (subI a b) a = true := by
  have s1 := sub_isR ha hb
  obtain ⟨m1, m2⟩ := meet_two ha hb
  obtain ⟨n1, n2⟩ := meet_two s1 hb
  obtain ⟨j1, j2⟩ := join_two s1 m1
  refine ⟨s1, m1, has_ext n1 (by decide) fun k hk => ?_, has_ext j1 ha fun k hk => ?_, (wB_bits s1 ha).2 fun k hk h => ?_⟩
  · rw [n2 k hk, has_sub ha hb hk, has_zero hk]
    cases hasB a k <;> cases hasB b k <;> rfl
  · rw [j2 k hk, has_sub ha hb hk, m2 k hk]
    cases hasB a k <;> cases hasB b k <;> rfl
  · rw [has_sub ha hb hk, Bool.and_eq_true] at h
    exact h.1

/-- What RightsBack asks of two rights. -/
theorem back_text {a : Int} (ha : isR a = true) : (txt a).size = 4 ∧ parV (txt a) = a ∧ parF (txt a) = 0 := by
  have h := isR_iff.1 ha
  obtain ⟨k, rfl⟩ := Int.eq_ofNat_of_zero_le h.1
  have hk : k < 16 := by omega
  have ht : telB (txt (k : Int)) k = true := by unfold telB; exact beq_self_eq_true _
  have h1 := (telB_iff hk).1 ht
  refine ⟨h1.1, ?_⟩
  refine tel_some hk ht fun j hj => ?_
  cases h2 : telB (txt (k : Int)) j
  · rfl
  · have h3 := (telB_iff (by omega)).1 h2
    have e : ((j : Nat) : Int) = (k : Int) := has_ext (by rw [isR_iff]; omega) ha fun i hi => by
      rw [← chr_sign, ← chr_sign, ← h3.2 i hi, ← h1.2 i hi]
    omega
theorem text_inj {a b : Int} (ha : isR a = true) (hb : isR b = true) (h : (txt a).toList = (txt b).toList) : a = b := by
  have e1 := back_text ha
  have e2 := back_text hb
  have e : txt a = txt b := by
    rw [ByteArray.toList_eq, ByteArray.toList_eq] at h
    cases h1 : txt a
    cases h2 : txt b
    rw [h1, h2] at h
    congr 1
    exact Array.ext' h
  rw [← e1.2.1, e, e2.2.1]
end Go.Proofs.Ytmicdinibeddmaa
