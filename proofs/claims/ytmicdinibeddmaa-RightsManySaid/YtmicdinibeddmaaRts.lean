/-
  What the functions of package rights that compute with numbers and lists answer: contracts, for every ints and every list that reads as ints.
-/
import Derived.Test.YtmicdinibeddmaaBits
namespace Go.Proofs.Ytmicdinibeddmaa
open Go.RowKit

theorem is_r (r : Int) (w : World) (hw : (Lit.int .i64 r).wf = true) :
    Calls Try.prog 28 #[.int .i64 r] w fun e w' => e = .returned (.bool (isR r)) ∧ w = w' := by
  have h := sub15 hw
  clear hw
  go_enter Try.func28, Try.ntmps28
  go_wp2
  go_ret
  exact ⟨rfl, rfl⟩

theorem num2_any (e0 : Int) (w : World) :
    Calls Try.prog 26 #[.int .i64 e0] w fun e w' => e = .returned (.int .i64 e0) ∧ w = w' := by
  go_enter Try.func26, Try.ntmps26
  go_wp2
  go_ret
  exact ⟨rfl, rfl⟩

theorem ris_r (r : Int) (w : World) :
    Calls Try.prog 34 #[.int .i64 r] w fun e w' => e = .returned (.bool (isR r)) ∧ w = w' := by
  have H : isR r = (decide (0 ≤ r) && decide (r ≤ 15)) := by unfold isR; simp
  rw [H]
  by_cases h0 : 0 ≤ r <;> by_cases h1 : r ≤ 15 <;>
  (go_enter Try.func34, Try.ntmps34
   go_wp2
   go_ret
   exact ⟨by simp [h0, h1], rfl⟩)

/-- Is each that a has one that b has? -/
def inR (a b : Int) : Bool := subI a b == 0
def wB (a b : Int) : Bool := isR a && isR b && inR a b

theorem within_any (a b : Int) (w : World) (ha : (Lit.int .i64 a).wf = true) (hb : (Lit.int .i64 b).wf = true) :
    Calls Try.prog 27 #[.int .i64 a, .int .i64 b] w fun e w' => e = .returned (.bool (wB a b)) ∧ w = w' := by
  have hi : (bits .andNot .i64 a b == 0) = inR a b := rfl
  by_cases h1 : isR a = true
  · by_cases h2 : isR b = true
    · by_cases h3 : inR a b = true
      · have e : wB a b = true := by simp [wB, h1, h2, h3]
        rw [e]
        go_enter Try.func27, Try.ntmps27
        go_wp2_with (first | (go_at_call 28; refine (is_r _ _ (by assumption)).mono ?_; rintro e w' ⟨rfl, rfl⟩))
        go_ret
        exact ⟨rfl, rfl⟩
      · have e : wB a b = false := by simp [wB, h1, h2, h3]
        rw [e]
        have h4 : inR a b = false := by simpa using h3
        clear h3
        go_enter Try.func27, Try.ntmps27
        go_wp2_with (first | (go_at_call 28; refine (is_r _ _ (by assumption)).mono ?_; rintro e w' ⟨rfl, rfl⟩))
        go_ret
        exact ⟨rfl, rfl⟩
    · have e : wB a b = false := by simp [wB, h2]
      have h3 := isR_no h2
      rw [e]
      clear h2
      go_enter Try.func27, Try.ntmps27
      go_wp2_with (first | (go_at_call 28; refine (is_r _ _ (by assumption)).mono ?_; rintro e w' ⟨rfl, rfl⟩))
      go_ret
      exact ⟨rfl, rfl⟩
  · have e : wB a b = false := by simp [wB, h1]
    have h3 := isR_no h1
    rw [e]
    clear h1
    go_enter Try.func27, Try.ntmps27
    go_wp2_with (first | (go_at_call 28; refine (is_r _ _ (by assumption)).mono ?_; rintro e w' ⟨rfl, rfl⟩))
    go_ret
    exact ⟨rfl, rfl⟩

def lessB (a b : Int) : Bool := isR a && isR b
def lessV (a b : Int) : Int := if lessB a b = true then subI a b else 0
def lessE (a b : Int) : Int := if lessB a b = true then 0 else 20

theorem less_any (a b : Int) (w : World) (ha : (Lit.int .i64 a).wf = true) (hb : (Lit.int .i64 b).wf = true) :
    Calls Try.prog 40 #[.int .i64 a, .int .i64 b] w fun e w' => e = .returned (.tuple #[.int .i64 (lessV a b), .int .i64 (lessE a b)]) ∧ w = w' := by
  have hi : bits .andNot .i64 a b = subI a b := rfl
  unfold lessV lessE
  by_cases h1 : isR a = true
  · by_cases h2 : isR b = true
    · have e : lessB a b = true := by simp [lessB, h1, h2]
      rw [if_pos e, if_pos e]
      clear e
      go_enter Try.func40, Try.ntmps40
      go_wp2_with (first | (go_at_call 28; refine (is_r _ _ (by assumption)).mono ?_; rintro e w' ⟨rfl, rfl⟩))
      go_ret2
      exact ⟨rfl, rfl⟩
    · have e : ¬ lessB a b = true := by simp [lessB, h2]
      rw [if_neg e, if_neg e]
      have h3 := isR_no h2
      clear e h2
      go_enter Try.func40, Try.ntmps40
      go_wp2_with (first | (go_at_call 28; refine (is_r _ _ (by assumption)).mono ?_; rintro e w' ⟨rfl, rfl⟩))
      go_ret2
      exact ⟨rfl, rfl⟩
  · have e : ¬ lessB a b = true := by simp [lessB, h1]
    rw [if_neg e, if_neg e]
    have h3 := isR_no h1
    clear e h1
    go_enter Try.func40, Try.ntmps40
    go_wp2_with (first | (go_at_call 28; refine (is_r _ _ (by assumption)).mono ?_; rintro e w' ⟨rfl, rfl⟩))
    go_ret2
    exact ⟨rfl, rfl⟩

theorem both_any (a b : Int) (w : World) :
    Calls Try.prog 46 #[.int .i64 a, .int .i64 b] w fun e w' => e = .returned (.int .i64 (andI a b)) ∧ w = w' := by
  have hi : bits .and .i64 a b = andI a b := rfl
  go_enter Try.func46, Try.ntmps46
  go_wp2
  go_ret
  exact ⟨rfl, rfl⟩
theorem some_any (a b : Int) (w : World) :
    Calls Try.prog 47 #[.int .i64 a, .int .i64 b] w fun e w' => e = .returned (.int .i64 (orI a b)) ∧ w = w' := by
  have hi : bits .or .i64 a b = orI a b := rfl
  go_enter Try.func47, Try.ntmps47
  go_wp2
  go_ret
  exact ⟨rfl, rfl⟩

/-- The first k folded into one another. -/
def foldI (f : Int → Int → Int) (out : Int) (zs : List Int) (k : Nat) : Int := (zs.take k).foldl f out
theorem foldI_zero (f : Int → Int → Int) (out : Int) (zs : List Int) : foldI f out zs 0 = out := rfl
theorem foldI_succ (f : Int → Int → Int) (out : Int) (zs : List Int) (k : Nat) (h : k < zs.length) : foldI f out zs (k + 1) = f (foldI f out zs k) (zs.getD k 0) := by
  unfold foldI
  rw [List.take_succ_eq_append_getElem h, List.foldl_append]
  simp [List.getD_eq_getElem?_getD, h]
def allR (zs : List Int) : Bool := zs.all isR
def foldV (f : Int → Int → Int) (out : Int) (zs : List Int) : Int := if allR zs = true then zs.foldl f out else 0
def foldE (zs : List Int) : Int := if allR zs = true then 0 else 20

theorem allR_at {zs : List Int} {k : Nat} (h : allR zs = true) (hk : k < zs.length) : isR (zs.getD k 0) = true := by
  have e : zs.getD k 0 = zs[k] := by simp [List.getD_eq_getElem?_getD, hk]
  rw [e]
  exact List.all_eq_true.1 h _ (List.getElem_mem hk)
theorem allR_bad {zs : List Int} {k : Nat} (hk : k < zs.length) (hb : ¬ isR (zs.getD k 0) = true) : ¬ allR zs = true := fun h => hb (allR_at h hk)
theorem allR_of {zs : List Int} (h : ∀ j, j < zs.length → isR (zs.getD j 0) = true) : allR zs = true := by
  unfold allR
  rw [List.all_eq_true]
  intro x hx
  obtain ⟨j, hj, rfl⟩ := List.mem_iff_getElem.1 hx
  have e : zs.getD j 0 = zs[j] := by simp [List.getD_eq_getElem?_getD, hj]
  rw [← e]
  exact h j hj
theorem getD_wf {zs : List Int} {k : Nat} (hw : ∀ z ∈ zs, (Lit.int .i64 z).wf = true) (hk : k < zs.length) : (Lit.int .i64 (zs.getD k 0)).wf = true := by
  have e : zs.getD k 0 = zs[k] := by simp [List.getD_eq_getElem?_getD, hk]
  rw [e]
  exact hw _ (List.getElem_mem hk)

set_option maxHeartbeats 400000 in
theorem foldAnd (A : Option Addr) (n c B : Nat) (zs : List Int) (out : Int) (w : World) (hr : Rd w B A n zs) (hn : n ≤ 1000) :
    Calls Try.prog 45 #[.int .i64 out, .slice A n c, .func (.func 46) #[] #[]] w fun e w' => e = .returned (.tuple #[.int .i64 (foldV andI out zs), .int .i64 (foldE zs)]) ∧ w = w' := by
  have HR := hid hr
  clear hr
  go_enter Try.func45, Try.ntmps45
  go_wp2_with fail
  go_loop [0, 12] (fun v i => ∃ k : Nat, k ≤ n ∧ i = .int .i64 k ∧ v = .int .i64 (foldI andI out zs k) ∧ (∀ j, j < k → isR (zs.getD j 0) = true)) (fun _ i => n - (intOf i).toNat)
  case atStart => exact ⟨0, Nat.zero_le _, rfl, rfl, fun j hj => by omega⟩
  case round =>
    obtain ⟨k, hk, rfl, rfl, ha⟩ := hrel
    have HA := hid ha
    clear ha
    by_cases hlt : k < n
    · have hkl : k < zs.length := by have := HR.out.len; omega
      obtain ⟨b, off, rfl, _, hc⟩ := HR.out.2.2 (by omega)
      have hc1 := hc k hlt
      have hs := hid (foldI_succ andI out zs k hkl)
      have hw := getD_wf HR.out.2.1 hkl
      by_cases hz : isR (zs.getD k 0) = true
      · have HZ := hid hz
        obtain ⟨z, hzz⟩ : ∃ z, z = zs.getD k 0 := ⟨_, rfl⟩
        rw [← hzz] at hc1 hz hw
        have HZZ := hid hzz
        clear hzz hc
        go_wp2_with (first
          | (go_at_call 28; refine (is_r _ _ (by assumption)).mono ?_; rintro e w' ⟨rfl, rfl⟩)
          | (go_at_call 46; refine (both_any _ _ _).mono ?_; rintro e w' ⟨rfl, rfl⟩))
        go_round
        case rel => exact ⟨k + 1, by omega, by go_num, by rw [hs.out, HZZ.out], fun j hj => if h : j < k then HA.out j h else by rw [show j = k by omega]; exact HZ.out⟩
        case measure => simp [intOf]; omega
      · have hbad := hid (allR_bad hkl hz)
        have hz' := isR_no hz
        obtain ⟨z, hzz⟩ : ∃ z, z = zs.getD k 0 := ⟨_, rfl⟩
        rw [← hzz] at hc1 hz' hw
        clear hzz hc hz
        go_wp2_with (first
          | (go_at_call 28; refine (is_r _ _ (by assumption)).mono ?_; rintro e w' ⟨rfl, rfl⟩))
        go_ret2
        exact ⟨by unfold foldV foldE; rw [if_neg hbad.out, if_neg hbad.out]; rfl, rfl⟩
    · have hall : Hid (allR zs = true) := allR_of fun j hj => HA.out j (by have := HR.out.len; omega)
      have hfull : Hid (foldI andI out zs k = zs.foldl andI out) := by
        show foldI andI out zs k = zs.foldl andI out
        unfold foldI
        rw [List.take_of_length_le (by have := HR.out.len; omega)]
      go_wp2
      go_ret2
      exact ⟨by unfold foldV foldE; rw [if_pos hall.out, if_pos hall.out, ← hfull.out]; rfl, rfl⟩
set_option maxHeartbeats 400000 in
theorem foldOr (A : Option Addr) (n c B : Nat) (zs : List Int) (out : Int) (w : World) (hr : Rd w B A n zs) (hn : n ≤ 1000) :
    Calls Try.prog 45 #[.int .i64 out, .slice A n c, .func (.func 47) #[] #[]] w fun e w' => e = .returned (.tuple #[.int .i64 (foldV orI out zs), .int .i64 (foldE zs)]) ∧ w = w' := by
  have HR := hid hr
  clear hr
  go_enter Try.func45, Try.ntmps45
  go_wp2_with fail
  go_loop [0, 12] (fun v i => ∃ k : Nat, k ≤ n ∧ i = .int .i64 k ∧ v = .int .i64 (foldI orI out zs k) ∧ (∀ j, j < k → isR (zs.getD j 0) = true)) (fun _ i => n - (intOf i).toNat)
  case atStart => exact ⟨0, Nat.zero_le _, rfl, rfl, fun j hj => by omega⟩
  case round =>
    obtain ⟨k, hk, rfl, rfl, ha⟩ := hrel
    have HA := hid ha
    clear ha
    by_cases hlt : k < n
    · have hkl : k < zs.length := by have := HR.out.len; omega
      obtain ⟨b, off, rfl, _, hc⟩ := HR.out.2.2 (by omega)
      have hc1 := hc k hlt
      have hs := hid (foldI_succ orI out zs k hkl)
      have hw := getD_wf HR.out.2.1 hkl
      by_cases hz : isR (zs.getD k 0) = true
      · have HZ := hid hz
        obtain ⟨z, hzz⟩ : ∃ z, z = zs.getD k 0 := ⟨_, rfl⟩
        rw [← hzz] at hc1 hz hw
        have HZZ := hid hzz
        clear hzz hc
        go_wp2_with (first
          | (go_at_call 28; refine (is_r _ _ (by assumption)).mono ?_; rintro e w' ⟨rfl, rfl⟩)
          | (go_at_call 47; refine (some_any _ _ _).mono ?_; rintro e w' ⟨rfl, rfl⟩))
        go_round
        case rel => exact ⟨k + 1, by omega, by go_num, by rw [hs.out, HZZ.out], fun j hj => if h : j < k then HA.out j h else by rw [show j = k by omega]; exact HZ.out⟩
        case measure => simp [intOf]; omega
      · have hbad := hid (allR_bad hkl hz)
        have hz' := isR_no hz
        obtain ⟨z, hzz⟩ : ∃ z, z = zs.getD k 0 := ⟨_, rfl⟩
        rw [← hzz] at hc1 hz' hw
        clear hzz hc hz
        go_wp2_with (first
          | (go_at_call 28; refine (is_r _ _ (by assumption)).mono ?_; rintro e w' ⟨rfl, rfl⟩))
        go_ret2
        exact ⟨by unfold foldV foldE; rw [if_neg hbad.out, if_neg hbad.out]; rfl, rfl⟩
    · have hall : Hid (allR zs = true) := allR_of fun j hj => HA.out j (by have := HR.out.len; omega)
      have hfull : Hid (foldI orI out zs k = zs.foldl orI out) := by
        show foldI orI out zs k = zs.foldl orI out
        unfold foldI
        rw [List.take_of_length_le (by have := HR.out.len; omega)]
      go_wp2
      go_ret2
      exact ⟨by unfold foldV foldE; rw [if_pos hall.out, if_pos hall.out, ← hfull.out]; rfl, rfl⟩

def meetV (zs : List Int) : Int := foldV andI 15 zs
def joinV (zs : List Int) : Int := foldV orI 0 zs

theorem meet_any (A : Option Addr) (n c B : Nat) (zs : List Int) (w : World) (hr : Rd w B A n zs) (hn : n ≤ 1000) :
    Calls Try.prog 24 #[.slice A n c] w fun e w' => e = .returned (.tuple #[.int .i64 (meetV zs), .int .i64 (foldE zs)]) ∧ w = w' := by
  have h := foldAnd A n c B zs 15 w hr hn
  have H := hid h
  clear h hr
  unfold meetV
  go_enter Try.func24, Try.ntmps24
  go_wp2_with fail
  refine H.out.mono ?_
  rintro e w' ⟨rfl, rfl⟩
  go_wp2
  go_ret2
  exact ⟨rfl, rfl⟩

theorem join_any (A : Option Addr) (n c B : Nat) (zs : List Int) (w : World) (hr : Rd w B A n zs) (hn : n ≤ 1000) :
    Calls Try.prog 25 #[.slice A n c] w fun e w' => e = .returned (.tuple #[.int .i64 (joinV zs), .int .i64 (foldE zs)]) ∧ w = w' := by
  have h := foldOr A n c B zs 0 w hr hn
  have H := hid h
  clear h hr
  unfold joinV
  go_enter Try.func25, Try.ntmps25
  go_wp2_with fail
  refine H.out.mono ?_
  rintro e w' ⟨rfl, rfl⟩
  go_wp2
  go_ret2
  exact ⟨rfl, rfl⟩
end Go.Proofs.Ytmicdinibeddmaa
