/-
  What the reference of package rights answers about numbers: contracts, for every ints.
-/
import Derived.Test.YtmicdinibeddmaaRts
namespace Go.Proofs.Ytmicdinibeddmaa
open Go.RowKit

theorem has_any (a : Int) (k : Nat) (w : World) (ha : isR a = true) (hk : k < 4) :
    Calls Try.prog 48 #[.int .i64 a, .int .i64 k] w fun e w' => e = .returned (.bool (hasB a k)) ∧ w = w' := by
  have h := isR_iff.1 ha
  have h0 := h.1
  have h1 := h.2
  have e : ((a / 2 ^ k).tmod 2 == 1) = hasB a k := by
    have h2 : 0 ≤ a / 2 ^ k := Int.ediv_nonneg h0 (Int.le_of_lt (Int.pow_pos (by omega)))
    unfold hasB
    rw [Int.tmod_eq_emod_of_nonneg h2]
    rfl
  clear ha h
  go_enter Try.func48, Try.ntmps48
  go_wp2
  go_ret
  exact ⟨rfl, rfl⟩

theorem has_zero {k : Nat} (hk : k < 4) : hasB 0 k = false := by
  obtain ⟨z, rfl⟩ := fin4 hk
  clear hk
  revert z
  decide +kernel
theorem inR_iff {a b : Int} (ha : isR a = true) (hb : isR b = true) : inR a b = true ↔ ∀ k, k < 4 → hasB a k = true → hasB b k = true := by
  have hs := sub_isR ha hb
  unfold inR
  rw [beq_iff_eq]
  constructor
  · intro h k hk h1
    have h2 := has_sub ha hb hk
    rw [h, has_zero hk, h1] at h2
    simpa using h2.symm
  · intro h
    refine has_ext hs (by decide) fun k hk => ?_
    rw [has_sub ha hb hk, has_zero hk]
    have := h k hk
    cases h1 : hasB a k <;> cases h2 : hasB b k <;> simp_all

theorem rwithin_no (a b : Int) (w : World) (h : ¬ (isR a && isR b) = true) :
    Calls Try.prog 35 #[.int .i64 a, .int .i64 b] w fun e w' => e = .returned (.bool false) ∧ w = w' := by
  by_cases h1 : isR a = true
  · have h2 : isR b = false := by simpa [h1] using h
    clear h
    go_enter Try.func35, Try.ntmps35
    go_wp2_with (first | (go_at_call 34; refine (ris_r _ _).mono ?_; rintro e w' ⟨rfl, rfl⟩))
    go_ret
    exact ⟨rfl, rfl⟩
  · have h2 := isR_no h1
    clear h h1
    go_enter Try.func35, Try.ntmps35
    go_wp2_with (first | (go_at_call 34; refine (ris_r _ _).mono ?_; rintro e w' ⟨rfl, rfl⟩))
    go_ret
    exact ⟨rfl, rfl⟩

theorem rwithin_yes (a b : Int) (w : World) (ha : isR a = true) (hb : isR b = true) :
    Calls Try.prog 35 #[.int .i64 a, .int .i64 b] w fun e w' => e = .returned (.bool (inR a b)) ∧ w = w' := by
  have hi := hid (inR_iff ha hb)
  go_enter Try.func35, Try.ntmps35
  go_wp2_with (first | (go_at_call 34; refine (ris_r _ _).mono ?_; rintro e w' ⟨rfl, rfl⟩))
  go_loop [5] (fun i => ∃ k : Nat, k ≤ 4 ∧ i = .int .i64 k ∧ (∀ j, j < k → hasB a j = true → hasB b j = true)) (fun i => 4 - (intOf i).toNat)
  case atStart => exact ⟨0, Nat.zero_le _, rfl, fun j hj => by omega⟩
  case round =>
    obtain ⟨k, hk, rfl, hall⟩ := hrel
    have HA := hid hall
    clear hall
    by_cases hlt : k < 4
    · by_cases h1 : hasB a k = true
      · by_cases h2 : hasB b k = true
        · go_wp2_with (first | (go_at_call 48; refine (has_any _ _ _ (by assumption) (by omega)).mono ?_; rintro e w' ⟨rfl, rfl⟩))
          go_round
          case rel => exact ⟨k + 1, by omega, by go_num, fun j hj => if h : j < k then HA.out j h else by rw [show j = k by omega]; exact fun _ => h2⟩
          case measure => simp [intOf]; omega
        · have h3 : hasB b k = false := by simpa using h2
          have h4 : Hid (inR a b = false) := by
            show inR a b = false
            cases h5 : inR a b
            · rfl
            · exact absurd (hi.out.1 h5 k hlt h1) h2
          clear h2
          go_wp2_with (first | (go_at_call 48; refine (has_any _ _ _ (by assumption) (by omega)).mono ?_; rintro e w' ⟨rfl, rfl⟩))
          go_ret
          exact ⟨by rw [h4.out]; rfl, rfl⟩
      · have h3 : hasB a k = false := by simpa using h1
        have H1 := hid h1
        clear h1
        go_wp2_with (first | (go_at_call 48; refine (has_any _ _ _ (by assumption) (by omega)).mono ?_; rintro e w' ⟨rfl, rfl⟩))
        go_round
        case rel => exact ⟨k + 1, by omega, by go_num, fun j hj => if h : j < k then HA.out j h else by rw [show j = k by omega]; exact fun h => absurd h H1.out⟩
        case measure => simp [intOf]; omega
    · have h4 : Hid (inR a b = true) := hi.out.2 fun j hj => HA.out j (by omega)
      go_wp2
      go_ret
      exact ⟨by rw [h4.out]; rfl, rfl⟩

theorem rwithin_any (a b : Int) (w : World) :
    Calls Try.prog 35 #[.int .i64 a, .int .i64 b] w fun e w' => e = .returned (.bool (wB a b)) ∧ w = w' := by
  unfold wB
  by_cases h : (isR a && isR b) = true
  · rw [h, Bool.true_and]
    simp only [Bool.and_eq_true] at h
    exact rwithin_yes a b w h.1 h.2
  · have e : (isR a && isR b) = false := by simpa using h
    rw [e, Bool.false_and]
    exact rwithin_no a b w h

theorem wrap_sum {p : Nat → Bool} {k : Nat} (hk : k < 4) (h : p k = true) : wrap64 (sumB p k + wrap64 (2 ^ k)) = sumB p (k + 1) := by
  have h1 := sumB_range p k
  have h2 : (2 : Int) ^ k ≤ 8 := by
    obtain ⟨z, rfl⟩ := fin4 hk
    clear hk h h1
    revert z
    decide
  have h3 : (0 : Int) < 2 ^ k := Int.pow_pos (by omega)
  have e1 : wrap64 (2 ^ k) = 2 ^ k := IntWalk.wrap64_in _ ⟨by omega, by omega⟩
  rw [e1, IntWalk.wrap64_in _ ⟨by omega, by omega⟩]
  show _ = if p k = true then sumB p k + 2 ^ k else sumB p k
  rw [if_pos h]
theorem sum_same {p : Nat → Bool} {k : Nat} (h : p k = false) : sumB p (k + 1) = sumB p k := by
  show (if p k = true then sumB p k + 2 ^ k else sumB p k) = _
  rw [h]
  rfl

def subP (a b : Int) (j : Nat) : Bool := hasB a j && !hasB b j

theorem rless_no (a b : Int) (w : World) (h : ¬ lessB a b = true) :
    Calls Try.prog 41 #[.int .i64 a, .int .i64 b] w fun e w' => e = .returned (.tuple #[.int .i64 0, .int .i64 20]) ∧ w = w' := by
  unfold lessB at h
  by_cases h1 : isR a = true
  · have h2 : isR b = false := by simpa [h1] using h
    clear h
    go_enter Try.func41, Try.ntmps41
    go_wp2_with (first | (go_at_call 34; refine (ris_r _ _).mono ?_; rintro e w' ⟨rfl, rfl⟩))
    go_ret2
    exact ⟨rfl, rfl⟩
  · have h2 := isR_no h1
    clear h h1
    go_enter Try.func41, Try.ntmps41
    go_wp2_with (first | (go_at_call 34; refine (ris_r _ _).mono ?_; rintro e w' ⟨rfl, rfl⟩))
    go_ret2
    exact ⟨rfl, rfl⟩

set_option maxHeartbeats 400000 in
theorem rless_yes (a b : Int) (w : World) (ha : isR a = true) (hb : isR b = true) :
    Calls Try.prog 41 #[.int .i64 a, .int .i64 b] w fun e w' => e = .returned (.tuple #[.int .i64 (sumB (subP a b) 4), .int .i64 0]) ∧ w = w' := by
  go_enter Try.func41, Try.ntmps41
  go_wp2_with (first | (go_at_call 34; refine (ris_r _ _).mono ?_; rintro e w' ⟨rfl, rfl⟩))
  go_loop [6, 7] (fun v i => ∃ k : Nat, k ≤ 4 ∧ i = .int .i64 k ∧ v = .int .i64 (sumB (subP a b) k)) (fun _ i => 4 - (intOf i).toNat)
  case atStart => exact ⟨0, Nat.zero_le _, rfl, rfl⟩
  case round =>
    obtain ⟨k, hk, rfl, rfl⟩ := hrel
    by_cases hlt : k < 4
    · by_cases h1 : hasB a k = true
      · by_cases h2 : hasB b k = true
        · have HP : Hid (subP a b k = false) := by show (hasB a k && !hasB b k) = false; rw [h1, h2]; rfl
          go_wp2_with (first | (go_at_call 48; refine (has_any _ _ _ (by assumption) (by omega)).mono ?_; rintro e w' ⟨rfl, rfl⟩))
          go_round
          case rel => exact ⟨k + 1, by omega, by go_num, by rw [sum_same HP.out]⟩
          case measure => simp [intOf]; omega
        · have h3 : hasB b k = false := by simpa using h2
          have HP : Hid (subP a b k = true) := by show (hasB a k && !hasB b k) = true; rw [h1, h3]; rfl
          clear h2
          go_wp2_with (first | (go_at_call 48; refine (has_any _ _ _ (by assumption) (by omega)).mono ?_; rintro e w' ⟨rfl, rfl⟩))
          go_round
          case rel => exact ⟨k + 1, by omega, by go_num, by rw [wrap_sum hlt HP.out]⟩
          case measure => simp [intOf]; omega
      · have h3 : hasB a k = false := by simpa using h1
        have HP : Hid (subP a b k = false) := by show (hasB a k && !hasB b k) = false; rw [h3]; rfl
        clear h1
        go_wp2_with (first | (go_at_call 48; refine (has_any _ _ _ (by assumption) (by omega)).mono ?_; rintro e w' ⟨rfl, rfl⟩))
        go_round
        case rel => exact ⟨k + 1, by omega, by go_num, by rw [sum_same HP.out]⟩
        case measure => simp [intOf]; omega
    · obtain rfl : k = 4 := by omega
      go_wp2
      go_ret2
      exact ⟨rfl, rfl⟩

theorem rless_any (a b : Int) (w : World) :
    Calls Try.prog 41 #[.int .i64 a, .int .i64 b] w fun e w' => e = .returned (.tuple #[.int .i64 (lessV a b), .int .i64 (lessE a b)]) ∧ w = w' := by
  unfold lessV lessE
  by_cases h : lessB a b = true
  · rw [if_pos h, if_pos h]
    unfold lessB at h
    simp only [Bool.and_eq_true] at h
    have e : sumB (subP a b) 4 = subI a b := by
      rw [sumB_four (sub_isR h.1 h.2)]
      exact sumB_congr 4 fun j hj => (has_sub h.1 h.2 hj).symm
    have h1 := rless_yes a b w h.1 h.2
    rw [e] at h1
    exact h1
  · rw [if_neg h, if_neg h]
    exact rless_no a b w h
end Go.Proofs.Ytmicdinibeddmaa
