/-
  What the functions of package handle that read or make lists compute: contracts, for every list that reads as ints and every number.
-/
import Derived.Test.YtmicdinibeddmaaHand
import Derived.Laws.CopyOwn
import Derived.BigQuiet
import Derived.Deep.QuietTactic
namespace Go.Proofs.Ytmicdinibeddmaa
open Go.RowKit

def inB (zs : List Int) (o : Int) : Bool := decide (0 ≤ o ∧ o < zs.length ∧ o < 64)
def ofE (zs : List Int) (o : Int) : Int := if inB zs o = true then (if genB (zs.getD o.toNat 0) = true then 0 else 80) else 2
def ofV (zs : List Int) (o : Int) : Int := if inB zs o = true then (if genB (zs.getD o.toNat 0) = true then zs.getD o.toNat 0 * 64 + o else 0) else 0

theorem of_out (A : Option Addr) (n c : Nat) (o : Int) (w : World) (h : o < 0 ∨ (n : Int) ≤ o ∨ 64 ≤ o) :
    Calls Try.prog 29 #[.slice A n c, .int .i64 o] w fun e w' => e = .returned (.tuple #[.int .i64 0, .int .i64 2]) ∧ w = w' := by
  by_cases h0 : o < 0
  · go_enter Try.func29, Try.ntmps29
    go_wp2
    go_ret2
    exact ⟨rfl, rfl⟩
  · by_cases h1 : (64 : Int) < (n : Int)
    · have h2 : 64 ≤ o := by omega
      go_enter Try.func29, Try.ntmps29
      go_wp2
      go_ret2
      exact ⟨rfl, rfl⟩
    · have h2 : (n : Int) ≤ o := by omega
      go_enter Try.func29, Try.ntmps29
      go_wp2
      go_ret2
      exact ⟨rfl, rfl⟩

theorem of_in (b off : Nat) (n c k : Nat) (z : Int) (w : World) (h0 : k < n) (h1 : k < 64) (hc : w.cell? ⟨b, off + k, none⟩ = some (.int .i64 z)) :
    Calls Try.prog 29 #[.slice (some ⟨b, off, none⟩) n c, .int .i64 k] w
      fun e w' => e = .returned (.tuple #[.int .i64 (if genB z = true then z * 64 + k else 0), .int .i64 (if genB z = true then 0 else 80)]) ∧ w = w' := by
  by_cases h2 : (64 : Int) < (n : Int)
  all_goals
    by_cases hg : genB z = true
    · have hz : 0 ≤ z ∧ z ≤ 4095 := by simpa [genB] using hg
      have h4 := hz.1
      have h5 := hz.2
      rw [if_pos hg, if_pos hg]
      clear hz
      go_enter Try.func29, Try.ntmps29
      go_wp2_with (first | (go_at_call 42; refine (gen_any _ _).mono ?_; rintro e w' ⟨rfl, rfl⟩) | (go_at_call 15; refine (put_ok _ _ _ (by omega) (by omega) h4 h5).mono ?_; rintro e w' ⟨rfl, rfl⟩))
      go_ret2
      exact ⟨rfl, rfl⟩
    · rw [if_neg hg, if_neg hg]
      have hg' : genB z = false := by simpa using hg
      clear hg
      go_enter Try.func29, Try.ntmps29
      go_wp2_with (first | (go_at_call 42; refine (gen_any _ _).mono ?_; rintro e w' ⟨rfl, rfl⟩))
      go_ret2
      exact ⟨rfl, rfl⟩

theorem of_any (A : Option Addr) (n c B : Nat) (zs : List Int) (o : Int) (w : World) (hr : Rd w B A n zs) :
    Calls Try.prog 29 #[.slice A n c, .int .i64 o] w fun e w' => e = .returned (.tuple #[.int .i64 (ofV zs o), .int .i64 (ofE zs o)]) ∧ w = w' := by
  unfold ofV ofE
  by_cases hi : inB zs o = true
  · rw [if_pos hi, if_pos hi]
    have h : 0 ≤ o ∧ o < zs.length ∧ o < 64 := by simpa [inB] using hi
    obtain ⟨h0, h1, h2⟩ := h
    obtain ⟨k, rfl⟩ := Int.eq_ofNat_of_zero_le h0
    obtain ⟨hl, _, hx⟩ := hr
    have hk : k < n := by omega
    obtain ⟨b, off, rfl, _, hc⟩ := hx (by omega)
    exact of_in b off n c k _ w hk (by omega) (hc k hk)
  · rw [if_neg hi, if_neg hi]
    have h : o < 0 ∨ (n : Int) ≤ o ∨ 64 ≤ o := by
      have := hr.len
      simp [inB] at hi
      omega
    exact of_out A n c o w h

def isV (zs : List Int) (h : Int) : Bool := hB h && decide (parO h < zs.length) && decide (zs.getD (parO h).toNat 0 = parG h)

theorem is_no (A : Option Addr) (n c : Nat) (h : Int) (w : World) (he : ¬ hB h = true) :
    Calls Try.prog 31 #[.slice A n c, .int .i64 h] w fun e w' => e = .returned (.bool false) ∧ w = w' := by
  have h1 : parE h = 2 := by unfold parE; rw [if_neg he]
  clear he
  go_enter Try.func31, Try.ntmps31
  go_wp2_with (first | (go_at_call 17; refine (parse_any _ _).mono ?_; rintro e w' ⟨rfl, rfl⟩))
  go_ret
  exact ⟨rfl, rfl⟩

theorem is_past (A : Option Addr) (n c : Nat) (h : Int) (w : World) (he : hB h = true) (hk : (n : Int) ≤ parO h) :
    Calls Try.prog 31 #[.slice A n c, .int .i64 h] w fun e w' => e = .returned (.bool false) ∧ w = w' := by
  have h1 : parE h = 0 := by unfold parE; rw [if_pos he]
  clear he
  go_enter Try.func31, Try.ntmps31
  go_wp2_with (first | (go_at_call 17; refine (parse_any _ _).mono ?_; rintro e w' ⟨rfl, rfl⟩))
  go_ret
  exact ⟨rfl, rfl⟩

theorem is_in (b off n c k : Nat) (h z : Int) (w : World) (he : hB h = true) (hk : k < n) (hp : parO h = k) (hc : w.cell? ⟨b, off + k, none⟩ = some (.int .i64 z)) :
    Calls Try.prog 31 #[.slice (some ⟨b, off, none⟩) n c, .int .i64 h] w fun e w' => e = .returned (.bool (decide (z = parG h))) ∧ w = w' := by
  have h1 : parE h = 0 := by unfold parE; rw [if_pos he]
  clear he
  by_cases hz : z = parG h
  · have hd : decide (z = parG h) = true := by simp [hz]
    rw [hd]
    have hz' : (z == parG h) = true := by simp [hz]
    clear hz hd
    go_enter Try.func31, Try.ntmps31
    go_wp2_with (first | (go_at_call 17; refine (parse_any _ _).mono ?_; rintro e w' ⟨rfl, rfl⟩))
    go_ret
    exact ⟨rfl, rfl⟩
  · have hd : decide (z = parG h) = false := by simp [hz]
    rw [hd]
    have hz' : (z == parG h) = false := by simp [hz]
    clear hz hd
    go_enter Try.func31, Try.ntmps31
    go_wp2_with (first | (go_at_call 17; refine (parse_any _ _).mono ?_; rintro e w' ⟨rfl, rfl⟩))
    go_ret
    exact ⟨rfl, rfl⟩

theorem par_range (h : Int) : 0 ≤ parO h ∧ parO h < 64 ∧ 0 ≤ parG h ∧ parG h ≤ 4095 := by
  unfold parO parG
  by_cases e : hB h = true
  · have := hB_yes e
    rw [if_pos e, if_pos e]
    omega
  · rw [if_neg e, if_neg e]
    omega

theorem is_any (A : Option Addr) (n c B : Nat) (zs : List Int) (h : Int) (w : World) (hr : Rd w B A n zs) :
    Calls Try.prog 31 #[.slice A n c, .int .i64 h] w fun e w' => e = .returned (.bool (isV zs h)) ∧ w = w' := by
  have hpr := par_range h
  obtain ⟨hl, _, hx⟩ := hr
  by_cases he : hB h = true
  · by_cases hk : (n : Int) ≤ parO h
    · have e1 : isV zs h = false := by
        have : ¬ parO h < zs.length := by omega
        simp [isV, this]
      rw [e1]
      exact is_past A n c h w he hk
    · obtain ⟨k, hp⟩ := Int.eq_ofNat_of_zero_le hpr.1
      have hkn : k < n := by omega
      obtain ⟨b, off, rfl, _, hc⟩ := hx (by omega)
      have e1 : isV zs h = decide (zs.getD k 0 = parG h) := by
        have h2 : parO h < zs.length := by omega
        have h3 : (parO h).toNat = k := by omega
        unfold isV
        rw [h3, he]
        simp [h2]
      rw [e1]
      exact is_in b off n c k h _ w he hkn hp (hc k hkn)
  · have e1 : isV zs h = false := by simp [isV, he]
    rw [e1]
    exact is_no A n c h w he

end Go.Proofs.Ytmicdinibeddmaa
