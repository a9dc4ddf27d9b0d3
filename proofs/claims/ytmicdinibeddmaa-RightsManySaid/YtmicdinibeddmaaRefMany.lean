/-
  What the reference of package rights answers about many rights: contracts, for every list that reads as ints.
-/
import Derived.Test.YtmicdinibeddmaaRef
namespace Go.Proofs.Ytmicdinibeddmaa
open Go.RowKit

def allN (zs : List Int) (k i : Nat) : Bool := (zs.take i).all fun z => hasB z k
def anyN (zs : List Int) (k i : Nat) : Bool := (zs.take i).any fun z => hasB z k
theorem allN_succ {zs : List Int} (k : Nat) {i : Nat} (h : i < zs.length) : allN zs k (i + 1) = (allN zs k i && hasB (zs.getD i 0) k) := by
  unfold allN
  rw [List.take_succ_eq_append_getElem h, List.all_append]
  simp [List.getD_eq_getElem?_getD, h]
theorem anyN_succ {zs : List Int} (k : Nat) {i : Nat} (h : i < zs.length) : anyN zs k (i + 1) = (anyN zs k i || hasB (zs.getD i 0) k) := by
  unfold anyN
  rw [List.take_succ_eq_append_getElem h, List.any_append]
  simp [List.getD_eq_getElem?_getD, h]
def allP (zs : List Int) (k : Nat) : Bool := allN zs k zs.length
def anyP (zs : List Int) (k : Nat) : Bool := anyN zs k zs.length

theorem foldl_and {zs : List Int} (h : allR zs = true) : ∀ {m : Int}, isR m = true → isR (zs.foldl andI m) = true ∧ ∀ k, k < 4 → hasB (zs.foldl andI m) k = (hasB m k && zs.all fun z => hasB z k) := by
  induction zs with
  | nil => intro m hm; exact ⟨hm, fun k _ => by simp⟩
  | cons z zs ih =>
    intro m hm
    unfold allR at h
    rw [List.all_cons, Bool.and_eq_true] at h
    have h1 := ih h.2 (and_isR hm h.1)
    refine ⟨h1.1, fun k hk => ?_⟩
    rw [List.foldl_cons, h1.2 k hk, has_and hm h.1 hk, List.all_cons, Bool.and_assoc]
theorem foldl_or {zs : List Int} (h : allR zs = true) : ∀ {m : Int}, isR m = true → isR (zs.foldl orI m) = true ∧ ∀ k, k < 4 → hasB (zs.foldl orI m) k = (hasB m k || zs.any fun z => hasB z k) := by
  induction zs with
  | nil => intro m hm; exact ⟨hm, fun k _ => by simp⟩
  | cons z zs ih =>
    intro m hm
    unfold allR at h
    rw [List.all_cons, Bool.and_eq_true] at h
    have h1 := ih h.2 (or_isR hm h.1)
    refine ⟨h1.1, fun k hk => ?_⟩
    rw [List.foldl_cons, h1.2 k hk, has_or hm h.1 hk, List.any_cons, Bool.or_assoc]
theorem has_15 {k : Nat} (hk : k < 4) : hasB 15 k = true := by
  obtain ⟨z, rfl⟩ := fin4 hk
  clear hk
  revert z
  decide +kernel
theorem allP_eq (zs : List Int) (k : Nat) : allP zs k = zs.all fun z => hasB z k := by unfold allP allN; rw [List.take_length]
theorem anyP_eq (zs : List Int) (k : Nat) : anyP zs k = zs.any fun z => hasB z k := by unfold anyP anyN; rw [List.take_length]
theorem meetV_all {zs : List Int} (h : allR zs = true) : isR (meetV zs) = true ∧ ∀ k, k < 4 → hasB (meetV zs) k = allP zs k := by
  have h1 := foldl_and h (m := 15) (by decide)
  have e : meetV zs = zs.foldl andI 15 := by unfold meetV foldV; rw [if_pos h]
  rw [e]
  exact ⟨h1.1, fun k hk => by rw [h1.2 k hk, has_15 hk, allP_eq, Bool.true_and]⟩
theorem joinV_all {zs : List Int} (h : allR zs = true) : isR (joinV zs) = true ∧ ∀ k, k < 4 → hasB (joinV zs) k = anyP zs k := by
  have h1 := foldl_or h (m := 0) (by decide)
  have e : joinV zs = zs.foldl orI 0 := by unfold joinV foldV; rw [if_pos h]
  rw [e]
  exact ⟨h1.1, fun k hk => by rw [h1.2 k hk, has_zero hk, anyP_eq, Bool.false_or]⟩
theorem meet_sum {zs : List Int} (h : allR zs = true) : sumB (allP zs) 4 = meetV zs := by
  have h1 := meetV_all h
  rw [sumB_four h1.1]
  exact sumB_congr 4 fun j hj => (h1.2 j hj).symm
theorem join_sum {zs : List Int} (h : allR zs = true) : sumB (anyP zs) 4 = joinV zs := by
  have h1 := joinV_all h
  rw [sumB_four h1.1]
  exact sumB_congr 4 fun j hj => (h1.2 j hj).symm
theorem bad_fold {zs : List Int} (f : Int → Int → Int) (out : Int) (h : ¬ allR zs = true) : foldV f out zs = 0 ∧ foldE zs = 20 := by
  unfold foldV foldE
  rw [if_neg h, if_neg h]
  exact ⟨rfl, rfl⟩
theorem good_fold {zs : List Int} (h : allR zs = true) : foldE zs = 0 := by
  unfold foldE
  rw [if_pos h]

set_option maxHeartbeats 1000000 in
theorem rmeet_any (A : Option Addr) (n c B : Nat) (zs : List Int) (w : World) (hr : Rd w B A n zs) (hn : n ≤ 1000) :
    Calls Try.prog 38 #[.slice A n c] w fun e w' => e = .returned (.tuple #[.int .i64 (meetV zs), .int .i64 (foldE zs)]) ∧ w = w' := by
  have HR := hid hr
  clear hr
  go_enter Try.func38, Try.ntmps38
  go_wp2_with fail
  go_loop [4, 5] (fun v i => ∃ k : Nat, k ≤ 4 ∧ i = .int .i64 k ∧ v = .int .i64 (sumB (allP zs) k) ∧ (0 < k → allR zs = true)) (fun _ i => 4 - (intOf i).toNat)
  case atStart => exact ⟨0, Nat.zero_le _, rfl, rfl, fun h => absurd h (by omega)⟩
  case round =>
    obtain ⟨k, hk, rfl, rfl, hpos⟩ := hrel
    have HP := hid hpos
    clear hpos
    by_cases hlt : k < 4
    · go_wp2_with fail
      go_loop [6, 7] (fun v i => ∃ j : Nat, j ≤ n ∧ i = .int .i64 j ∧ v = .bool (allN zs k j) ∧ (∀ x, x < j → isR (zs.getD x 0) = true)) (fun _ i => n - (intOf i).toNat)
      case atStart => exact ⟨0, Nat.zero_le _, rfl, rfl, fun x hx => by omega⟩
      case round =>
        obtain ⟨j, hj, rfl, rfl, hall⟩ := hrel
        have HA := hid hall
        clear hall
        by_cases hjn : j < n
        · have hjl : j < zs.length := by have := HR.out.len; omega
          obtain ⟨b, off, rfl, _, hc⟩ := HR.out.2.2 (by omega)
          have hc1 := hc j hjn
          have hs := hid (allN_succ k hjl)
          by_cases hz : isR (zs.getD j 0) = true
          · have HZ := hid hz
            obtain ⟨z, hzz⟩ : ∃ z, z = zs.getD j 0 := ⟨_, rfl⟩
            rw [← hzz] at hc1 hz
            have HZZ := hid hzz
            clear hzz hc
            by_cases h1 : allN zs k j = true
            · have H1 := hid h1
              go_wp2_with (first
                | (go_at_call 34; refine (ris_r _ _).mono ?_; rintro e w' ⟨rfl, rfl⟩)
                | (go_at_call 48; refine (has_any _ _ _ (by assumption) (by omega)).mono ?_; rintro e w' ⟨rfl, rfl⟩))
              go_round
              case rel => exact ⟨j + 1, by omega, by go_num, by rw [hs.out, HZZ.out, H1.out]; rfl, fun x hx => if h : x < j then HA.out x h else by rw [show x = j by omega]; exact HZ.out⟩
              case measure => simp [intOf]; omega
            · have h2 : allN zs k j = false := by simpa using h1
              have H1 := hid h2
              clear h1
              go_wp2_with (first
                | (go_at_call 34; refine (ris_r _ _).mono ?_; rintro e w' ⟨rfl, rfl⟩)
                | (go_at_call 48; refine (has_any _ _ _ (by assumption) (by omega)).mono ?_; rintro e w' ⟨rfl, rfl⟩))
              go_round
              case rel => exact ⟨j + 1, by omega, by go_num, by rw [hs.out, H1.out]; rfl, fun x hx => if h : x < j then HA.out x h else by rw [show x = j by omega]; exact HZ.out⟩
              case measure => simp [intOf]; omega
          · have hbad := hid (bad_fold andI 15 (allR_bad hjl hz))
            have hz' := isR_no hz
            obtain ⟨z, hzz⟩ : ∃ z, z = zs.getD j 0 := ⟨_, rfl⟩
            rw [← hzz] at hc1 hz'
            clear hzz hc hz
            go_wp2_with (first | (go_at_call 34; refine (ris_r _ _).mono ?_; rintro e w' ⟨rfl, rfl⟩))
            go_ret2
            exact ⟨by unfold meetV; rw [hbad.out.1, hbad.out.2]; rfl, rfl⟩
        · have hall : Hid (allR zs = true) := allR_of fun x hx => HA.out x (by have := HR.out.len; omega)
          have hl : Hid (j = zs.length) := by
            show j = zs.length
            have := HR.out.len
            omega
          by_cases h1 : allN zs k j = true
          · have HX : Hid (allP zs k = true) := by
              show allN zs k zs.length = true
              rw [← hl.out]
              exact h1
            rw [h1]
            go_wp2
            go_round
            case rel => exact ⟨k + 1, by omega, by go_num, by rw [wrap_sum hlt HX.out], fun _ => hall.out⟩
            case measure => simp [intOf]; omega
          · have h2 : allN zs k j = false := by simpa using h1
            have HX : Hid (allP zs k = false) := by
              show allN zs k zs.length = false
              rw [← hl.out]
              exact h2
            clear h1
            rw [h2]
            go_wp2
            go_round
            case rel => exact ⟨k + 1, by omega, by go_num, by rw [sum_same HX.out], fun _ => hall.out⟩
            case measure => simp [intOf]; omega
    · obtain rfl : k = 4 := by omega
      have hall := HP.out (by omega)
      have e1 := hid (meet_sum hall)
      have e2 := hid (good_fold hall)
      clear hall
      go_wp2
      go_ret2
      exact ⟨by rw [← e1.out, e2.out]; rfl, rfl⟩

set_option maxHeartbeats 1000000 in
theorem rjoin_any (A : Option Addr) (n c B : Nat) (zs : List Int) (w : World) (hr : Rd w B A n zs) (hn : n ≤ 1000) :
    Calls Try.prog 39 #[.slice A n c] w fun e w' => e = .returned (.tuple #[.int .i64 (joinV zs), .int .i64 (foldE zs)]) ∧ w = w' := by
  have HR := hid hr
  clear hr
  go_enter Try.func39, Try.ntmps39
  go_wp2_with fail
  go_loop [4, 5] (fun v i => ∃ k : Nat, k ≤ 4 ∧ i = .int .i64 k ∧ v = .int .i64 (sumB (anyP zs) k) ∧ (0 < k → allR zs = true)) (fun _ i => 4 - (intOf i).toNat)
  case atStart => exact ⟨0, Nat.zero_le _, rfl, rfl, fun h => absurd h (by omega)⟩
  case round =>
    obtain ⟨k, hk, rfl, rfl, hpos⟩ := hrel
    have HP := hid hpos
    clear hpos
    by_cases hlt : k < 4
    · go_wp2_with fail
      go_loop [6, 7] (fun v i => ∃ j : Nat, j ≤ n ∧ i = .int .i64 j ∧ v = .bool (anyN zs k j) ∧ (∀ x, x < j → isR (zs.getD x 0) = true)) (fun _ i => n - (intOf i).toNat)
      case atStart => exact ⟨0, Nat.zero_le _, rfl, rfl, fun x hx => by omega⟩
      case round =>
        obtain ⟨j, hj, rfl, rfl, hall⟩ := hrel
        have HA := hid hall
        clear hall
        by_cases hjn : j < n
        · have hjl : j < zs.length := by have := HR.out.len; omega
          obtain ⟨b, off, rfl, _, hc⟩ := HR.out.2.2 (by omega)
          have hc1 := hc j hjn
          have hs := hid (anyN_succ k hjl)
          by_cases hz : isR (zs.getD j 0) = true
          · have HZ := hid hz
            obtain ⟨z, hzz⟩ : ∃ z, z = zs.getD j 0 := ⟨_, rfl⟩
            rw [← hzz] at hc1 hz
            have HZZ := hid hzz
            clear hzz hc
            by_cases h1 : anyN zs k j = true
            · have H1 := hid h1
              go_wp2_with (first
                | (go_at_call 34; refine (ris_r _ _).mono ?_; rintro e w' ⟨rfl, rfl⟩)
                | (go_at_call 48; refine (has_any _ _ _ (by assumption) (by omega)).mono ?_; rintro e w' ⟨rfl, rfl⟩))
              go_round
              case rel => exact ⟨j + 1, by omega, by go_num, by rw [hs.out, H1.out]; rfl, fun x hx => if h : x < j then HA.out x h else by rw [show x = j by omega]; exact HZ.out⟩
              case measure => simp [intOf]; omega
            · have h2 : anyN zs k j = false := by simpa using h1
              have H1 := hid h2
              clear h1
              go_wp2_with (first
                | (go_at_call 34; refine (ris_r _ _).mono ?_; rintro e w' ⟨rfl, rfl⟩)
                | (go_at_call 48; refine (has_any _ _ _ (by assumption) (by omega)).mono ?_; rintro e w' ⟨rfl, rfl⟩))
              go_round
              case rel => exact ⟨j + 1, by omega, by go_num, by rw [hs.out, HZZ.out, H1.out]; rfl, fun x hx => if h : x < j then HA.out x h else by rw [show x = j by omega]; exact HZ.out⟩
              case measure => simp [intOf]; omega
          · have hbad := hid (bad_fold orI 0 (allR_bad hjl hz))
            have hz' := isR_no hz
            obtain ⟨z, hzz⟩ : ∃ z, z = zs.getD j 0 := ⟨_, rfl⟩
            rw [← hzz] at hc1 hz'
            clear hzz hc hz
            go_wp2_with (first | (go_at_call 34; refine (ris_r _ _).mono ?_; rintro e w' ⟨rfl, rfl⟩))
            go_ret2
            exact ⟨by unfold joinV; rw [hbad.out.1, hbad.out.2]; rfl, rfl⟩
        · have hall : Hid (allR zs = true) := allR_of fun x hx => HA.out x (by have := HR.out.len; omega)
          have hl : Hid (j = zs.length) := by
            show j = zs.length
            have := HR.out.len
            omega
          by_cases h1 : anyN zs k j = true
          · have HX : Hid (anyP zs k = true) := by
              show anyN zs k zs.length = true
              rw [← hl.out]
              exact h1
            rw [h1]
            go_wp2
            go_round
            case rel => exact ⟨k + 1, by omega, by go_num, by rw [wrap_sum hlt HX.out], fun _ => hall.out⟩
            case measure => simp [intOf]; omega
          · have h2 : anyN zs k j = false := by simpa using h1
            have HX : Hid (anyP zs k = false) := by
              show anyN zs k zs.length = false
              rw [← hl.out]
              exact h2
            clear h1
            rw [h2]
            go_wp2
            go_round
            case rel => exact ⟨k + 1, by omega, by go_num, by rw [sum_same HX.out], fun _ => hall.out⟩
            case measure => simp [intOf]; omega
    · obtain rfl : k = 4 := by omega
      have hall := HP.out (by omega)
      have e1 := hid (join_sum hall)
      have e2 := hid (good_fold hall)
      clear hall
      go_wp2
      go_ret2
      exact ⟨by rw [← e1.out, e2.out]; rfl, rfl⟩

end Go.Proofs.Ytmicdinibeddmaa
