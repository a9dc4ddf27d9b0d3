/-
  What the texts of rights are: the reference's Text, a contract for every int.
-/
import Derived.Test.YtmicdinibeddmaaRefMany
namespace Go.Proofs.Ytmicdinibeddmaa
open Go.RowKit

def sign : Nat → UInt8
  | 0 => 114
  | 1 => 119
  | 2 => 103
  | _ => 99
def chr (r : Int) (j : Nat) : UInt8 := if hasB r j = true then sign j else 45
def txtL (r : Int) (k : Nat) : List UInt8 := (List.range k).map (chr r)
def txtK (r : Int) (k : Nat) : ByteArray := ⟨(txtL r k).toArray⟩
def txt (r : Int) : ByteArray := if isR r = true then txtK r 4 else ⟨#[]⟩
def signs : ByteArray := ⟨#[114, 119, 103, 99]⟩

theorem txtK_size (r : Int) (k : Nat) : (txtK r k).size = k := by
  show (txtL r k).toArray.size = k
  simp [txtL]
theorem txtK_succ (r : Int) (k : Nat) : txtK r (k + 1) = txtK r k ++ ⟨#[chr r k]⟩ := by
  unfold txtK txtL
  rw [List.range_succ, List.map_append, show (ByteArray.mk #[chr r k]) = ByteArray.mk [chr r k].toArray from rfl, ByteArray.mk_append_mk]
  rfl
theorem signs_at {k : Nat} (hk : k < 4) : signs.extract k (k + 1) = ⟨#[sign k]⟩ := by
  obtain ⟨z, rfl⟩ := fin4 hk
  clear hk
  revert z
  decide +kernel

theorem add_yes (r : Int) {k : Nat} (hk : k < 4) (h : hasB r k = true) (P : Program) (w : World) : (Op.stringOp .add (txtK r k) (({ data := #[114, 119, 103, 99] } : ByteArray).extract k (k + 1))).run P w = .ok (.string (txtK r (k + 1))) w := by
  have e : chr r k = sign k := by unfold chr; rw [if_pos h]
  rw [show (({ data := #[114, 119, 103, 99] } : ByteArray).extract k (k + 1)) = ⟨#[sign k]⟩ from signs_at hk, run_string_add_sum w _ _ (by rw [txtK_size]; show k + 1 ≤ _; omega), txtK_succ, e]
theorem add_no (r : Int) {k : Nat} (hk : k < 4) (h : ¬ hasB r k = true) (P : Program) (w : World) : (Op.stringOp .add (txtK r k) ⟨#[45]⟩).run P w = .ok (.string (txtK r (k + 1))) w := by
  have e : chr r k = 45 := by unfold chr; rw [if_neg h]
  rw [run_string_add_sum w _ _ (by rw [txtK_size]; show k + 1 ≤ _; omega), txtK_succ, e]

theorem rtext_no (r : Int) (w : World) (h : ¬ isR r = true) :
    Calls Try.prog 37 #[.int .i64 r] w fun e w' => e = .returned (.string ⟨#[]⟩) ∧ w = w' := by
  have h1 := isR_no h
  clear h
  go_enter Try.func37, Try.ntmps37
  go_wp2_with (first | (go_at_call 34; refine (ris_r _ _).mono ?_; rintro e w' ⟨rfl, rfl⟩))
  go_ret
  exact ⟨rfl, rfl⟩

theorem rtext_yes (r : Int) (w : World) (h : isR r = true) :
    Calls Try.prog 37 #[.int .i64 r] w fun e w' => e = .returned (.string (txtK r 4)) ∧ w = w' := by
  go_enter Try.func37, Try.ntmps37
  go_wp2_with (first | (go_at_call 34; refine (ris_r _ _).mono ?_; rintro e w' ⟨rfl, rfl⟩))
  go_loop [3, 5] (fun s i => ∃ k : Nat, k ≤ 4 ∧ i = .int .i64 k ∧ s = .string (txtK r k)) (fun _ i => 4 - (intOf i).toNat)
  case atStart => exact ⟨0, Nat.zero_le _, rfl, rfl⟩
  case round =>
    obtain ⟨k, hk, rfl, rfl⟩ := hrel
    by_cases hlt : k < 4
    · by_cases h1 : hasB r k = true
      · have hadd := add_yes r hlt h1 Try.prog w
        go_wp2_with (first | (go_at_call 48; refine (has_any _ _ _ (by assumption) (by omega)).mono ?_; rintro e w' ⟨rfl, rfl⟩))
        go_round
        case rel => exact ⟨k + 1, by omega, by go_num, rfl⟩
        case measure => simp [intOf]; omega
      · have hadd := add_no r hlt h1 Try.prog w
        have h3 : hasB r k = false := by simpa using h1
        clear h1
        go_wp2_with (first | (go_at_call 48; refine (has_any _ _ _ (by assumption) (by omega)).mono ?_; rintro e w' ⟨rfl, rfl⟩))
        go_round
        case rel => exact ⟨k + 1, by omega, by go_num, rfl⟩
        case measure => simp [intOf]; omega
    · obtain rfl : k = 4 := by omega
      go_wp2
      go_ret
      exact ⟨rfl, rfl⟩

theorem rtext_any (r : Int) (w : World) :
    Calls Try.prog 37 #[.int .i64 r] w fun e w' => e = .returned (.string (txt r)) ∧ w = w' := by
  unfold txt
  by_cases h : isR r = true
  · rw [if_pos h]
    exact rtext_yes r w h
  · rw [if_neg h]
    exact rtext_no r w h

/-- Is s the text of the rights k? -/
def telB (s : ByteArray) (k : Nat) : Bool := (txt k).toList == s.toList
def tel (s : ByteArray) : Option Nat := (List.range 16).find? (telB s)
def parV (s : ByteArray) : Int := match tel s with
  | some k => k
  | none => 0
def parF (s : ByteArray) : Int := match tel s with
  | some _ => 0
  | none => 20

theorem tel_some {s : ByteArray} {k : Nat} (hk : k < 16) (h : telB s k = true) (hb : ∀ j, j < k → telB s j = false) : parV s = k ∧ parF s = 0 := by
  have e : tel s = some k := by
    unfold tel
    rw [List.find?_range_eq_some]
    exact ⟨h, by simpa using hk, fun j hj => by simp [hb j hj]⟩
  unfold parV parF
  rw [e]
  exact ⟨rfl, rfl⟩
theorem tel_none {s : ByteArray} (hb : ∀ j, j < 16 → telB s j = false) : parV s = 0 ∧ parF s = 20 := by
  have e : tel s = none := by
    unfold tel
    rw [List.find?_range_eq_none]
    exact fun j hj => by simp [hb j hj]
  unfold parV parF
  rw [e]
  exact ⟨rfl, rfl⟩

theorem rparse_r (s : ByteArray) (w : World) :
    Calls Try.prog 33 #[.string s] w fun e w' => e = .returned (.tuple #[.int .i64 (parV s), .int .i64 (parF s)]) ∧ w = w' := by
  go_enter Try.func33, Try.ntmps33
  go_wp2_with fail
  go_loop [4] (fun i => ∃ k : Nat, k ≤ 16 ∧ i = .int .i64 k ∧ (∀ j, j < k → telB s j = false)) (fun i => 16 - (intOf i).toNat)
  case atStart => exact ⟨0, Nat.zero_le _, rfl, fun j hj => by omega⟩
  case round =>
    obtain ⟨k, hk, rfl, hall⟩ := hrel
    have HA := hid hall
    clear hall
    by_cases hlt : k < 16
    · by_cases h : telB s k = true
      · have hfin := hid (tel_some hlt h HA.out)
        have h' : ((txt (k : Int)).toList == s.toList) = true := h
        clear h
        go_wp2_with (first | (go_at_call 37; refine (rtext_any _ _).mono ?_; rintro e w' ⟨rfl, rfl⟩))
        go_ret2
        exact ⟨by rw [hfin.out.1, hfin.out.2]; rfl, rfl⟩
      · have h2 : telB s k = false := by simpa using h
        have H2 := hid h2
        have h' : ((txt (k : Int)).toList == s.toList) = false := h2
        clear h h2
        go_wp2_with (first | (go_at_call 37; refine (rtext_any _ _).mono ?_; rintro e w' ⟨rfl, rfl⟩))
        go_round
        case rel => exact ⟨k + 1, by omega, by go_num, fun j hj => if h : j < k then HA.out j h else by rw [show j = k by omega]; exact H2.out⟩
        case measure => simp [intOf]; omega
    · have hfin := hid (tel_none fun j hj => HA.out j (by omega))
      go_wp2
      go_ret2
      exact ⟨by rw [hfin.out.1, hfin.out.2]; rfl, rfl⟩
end Go.Proofs.Ytmicdinibeddmaa
