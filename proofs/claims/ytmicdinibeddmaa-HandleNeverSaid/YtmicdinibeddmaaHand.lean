/-
  What each function of package handle that computes with numbers alone, and of its reference, computes: contracts, for every input.
-/
import Derived.Test.YtmicdinibeddmaaBase
namespace Go.Proofs.Ytmicdinibeddmaa
open Go.RowKit

def genB (g : Int) : Bool := decide (0 ≤ g ∧ g ≤ 4095)
def putB (o g : Int) : Bool := decide (0 ≤ o ∧ o < 64 ∧ 0 ≤ g ∧ g ≤ 4095)
def putV (o g : Int) : Int := if putB o g = true then g * 64 + o else 0
def putE (o g : Int) : Int := if putB o g = true then 0 else 2
def hB (h : Int) : Bool := decide (0 ≤ h ∧ h ≤ 262143)
def parO (h : Int) : Int := if hB h = true then h % 64 else 0
def parG (h : Int) : Int := if hB h = true then h / 64 else 0
def parE (h : Int) : Int := if hB h = true then 0 else 2
def nextV (g : Int) : Int := if 0 ≤ g ∧ g ≤ 4094 then g + 1 else -1

theorem gen_any (g : Int) (w : World) :
    Calls Try.prog 42 #[.int .i64 g] w fun e w' => e = .returned (.bool (genB g)) ∧ w = w' := by
  have H : genB g = (decide (0 ≤ g) && decide (g ≤ 4095)) := by unfold genB; simp
  rw [H]
  by_cases h0 : 0 ≤ g <;> by_cases h1 : g ≤ 4095 <;>
  (go_enter Try.func42, Try.ntmps42
   go_wp2
   go_ret
   exact ⟨by simp [h0, h1], rfl⟩)

theorem rgen_any (g : Int) (w : World) :
    Calls Try.prog 43 #[.int .i64 g] w fun e w' => e = .returned (.bool (genB g)) ∧ w = w' := by
  have H : genB g = (decide (0 ≤ g) && decide (g ≤ 4095)) := by unfold genB; simp
  rw [H]
  by_cases h0 : 0 ≤ g <;> by_cases h1 : g ≤ 4095 <;>
  (go_enter Try.func43, Try.ntmps43
   go_wp2
   go_ret
   exact ⟨by simp [h0, h1], rfl⟩)

theorem num8_any (e0 : Int) (w : World) :
    Calls Try.prog 19 #[.int .i64 e0] w fun e w' => e = .returned (.int .i64 e0) ∧ w = w' := by
  go_enter Try.func19, Try.ntmps19
  go_wp2
  go_ret
  exact ⟨rfl, rfl⟩

theorem put_ok (o g : Int) (w : World) (h0 : 0 ≤ o) (h1 : o < 64) (h2 : 0 ≤ g) (h3 : g ≤ 4095) :
    Calls Try.prog 15 #[.int .i64 o, .int .i64 g] w fun e w' => e = .returned (.tuple #[.int .i64 (g * 64 + o), .int .i64 0]) ∧ w = w' := by
  go_enter Try.func15, Try.ntmps15
  go_wp2
  go_ret2
  exact ⟨rfl, rfl⟩

theorem put_no (o g : Int) (w : World) (h : o < 0 ∨ 64 ≤ o ∨ g < 0 ∨ 4095 < g) :
    Calls Try.prog 15 #[.int .i64 o, .int .i64 g] w fun e w' => e = .returned (.tuple #[.int .i64 0, .int .i64 2]) ∧ w = w' := by
  by_cases h0 : o < 0
  · go_enter Try.func15, Try.ntmps15
    go_wp2
    go_ret2
    exact ⟨rfl, rfl⟩
  · by_cases h1 : 64 ≤ o
    · go_enter Try.func15, Try.ntmps15
      go_wp2
      go_ret2
      exact ⟨rfl, rfl⟩
    · by_cases h2 : g < 0
      · go_enter Try.func15, Try.ntmps15
        go_wp2
        go_ret2
        exact ⟨rfl, rfl⟩
      · have h3 : decide (g ≤ 4095) = false := by simp; omega
        go_enter Try.func15, Try.ntmps15
        go_wp2
        go_ret2
        exact ⟨rfl, rfl⟩

theorem rput_ok (o g : Int) (w : World) (h0 : 0 ≤ o) (h1 : o < 64) (h2 : 0 ≤ g) (h3 : g ≤ 4095) :
    Calls Try.prog 16 #[.int .i64 o, .int .i64 g] w fun e w' => e = .returned (.tuple #[.int .i64 (g * 64 + o), .int .i64 0]) ∧ w = w' := by
  go_enter Try.func16, Try.ntmps16
  go_wp2
  go_ret2
  exact ⟨rfl, rfl⟩

theorem rput_no (o g : Int) (w : World) (h : o < 0 ∨ 64 ≤ o ∨ g < 0 ∨ 4095 < g) :
    Calls Try.prog 16 #[.int .i64 o, .int .i64 g] w fun e w' => e = .returned (.tuple #[.int .i64 0, .int .i64 2]) ∧ w = w' := by
  by_cases h0 : o < 0
  · go_enter Try.func16, Try.ntmps16
    go_wp2
    go_ret2
    exact ⟨rfl, rfl⟩
  · by_cases h1 : 64 ≤ o
    · go_enter Try.func16, Try.ntmps16
      go_wp2
      go_ret2
      exact ⟨rfl, rfl⟩
    · by_cases h2 : g < 0
      · go_enter Try.func16, Try.ntmps16
        go_wp2
        go_ret2
        exact ⟨rfl, rfl⟩
      · have h3 : decide (g ≤ 4095) = false := by simp; omega
        go_enter Try.func16, Try.ntmps16
        go_wp2
        go_ret2
        exact ⟨rfl, rfl⟩

theorem putB_yes {o g : Int} (h : putB o g = true) : 0 ≤ o ∧ o < 64 ∧ 0 ≤ g ∧ g ≤ 4095 := by simpa [putB] using h
theorem putB_no {o g : Int} (h : ¬ putB o g = true) : o < 0 ∨ 64 ≤ o ∨ g < 0 ∨ 4095 < g := by
  simp [putB] at h
  omega

theorem put_any (o g : Int) (w : World) :
    Calls Try.prog 15 #[.int .i64 o, .int .i64 g] w fun e w' => e = .returned (.tuple #[.int .i64 (putV o g), .int .i64 (putE o g)]) ∧ w = w' := by
  unfold putV putE
  by_cases h : putB o g = true
  · rw [if_pos h, if_pos h]
    obtain ⟨h0, h1, h2, h3⟩ := putB_yes h
    exact put_ok o g w h0 h1 h2 h3
  · rw [if_neg h, if_neg h]
    exact put_no o g w (putB_no h)

theorem rput_any (o g : Int) (w : World) :
    Calls Try.prog 16 #[.int .i64 o, .int .i64 g] w fun e w' => e = .returned (.tuple #[.int .i64 (putV o g), .int .i64 (putE o g)]) ∧ w = w' := by
  unfold putV putE
  by_cases h : putB o g = true
  · rw [if_pos h, if_pos h]
    obtain ⟨h0, h1, h2, h3⟩ := putB_yes h
    exact rput_ok o g w h0 h1 h2 h3
  · rw [if_neg h, if_neg h]
    exact rput_no o g w (putB_no h)

theorem parse_ok (h : Int) (w : World) (h0 : 0 ≤ h) (h1 : h ≤ 262143) :
    Calls Try.prog 17 #[.int .i64 h] w fun e w' => e = .returned (.tuple #[.int .i64 (h % 64), .int .i64 (h / 64), .int .i64 0]) ∧ w = w' := by
  go_enter Try.func17, Try.ntmps17
  go_wp2
  go_ret3
  exact ⟨rfl, rfl⟩

theorem parse_no (h : Int) (w : World) (h0 : h < 0 ∨ 262143 < h) :
    Calls Try.prog 17 #[.int .i64 h] w fun e w' => e = .returned (.tuple #[.int .i64 0, .int .i64 0, .int .i64 2]) ∧ w = w' := by
  by_cases h1 : h < 0
  · go_enter Try.func17, Try.ntmps17
    go_wp2
    go_ret3
    exact ⟨rfl, rfl⟩
  · have h2 : 262143 < h := by omega
    go_enter Try.func17, Try.ntmps17
    go_wp2
    go_ret3
    exact ⟨rfl, rfl⟩

theorem rparse_ok (h : Int) (w : World) (h0 : 0 ≤ h) (h1 : h ≤ 262143) :
    Calls Try.prog 18 #[.int .i64 h] w fun e w' => e = .returned (.tuple #[.int .i64 (h % 64), .int .i64 (h / 64), .int .i64 0]) ∧ w = w' := by
  go_enter Try.func18, Try.ntmps18
  go_wp2
  go_ret3
  exact ⟨rfl, rfl⟩

theorem rparse_no (h : Int) (w : World) (h0 : h < 0 ∨ 262143 < h) :
    Calls Try.prog 18 #[.int .i64 h] w fun e w' => e = .returned (.tuple #[.int .i64 0, .int .i64 0, .int .i64 2]) ∧ w = w' := by
  by_cases h1 : h < 0
  · go_enter Try.func18, Try.ntmps18
    go_wp2
    go_ret3
    exact ⟨rfl, rfl⟩
  · have h2 : 262143 < h := by omega
    go_enter Try.func18, Try.ntmps18
    go_wp2
    go_ret3
    exact ⟨rfl, rfl⟩

theorem hB_yes {h : Int} (e : hB h = true) : 0 ≤ h ∧ h ≤ 262143 := by simpa [hB] using e
theorem hB_no {h : Int} (e : ¬ hB h = true) : h < 0 ∨ 262143 < h := by
  simp [hB] at e
  omega

theorem parse_any (h : Int) (w : World) :
    Calls Try.prog 17 #[.int .i64 h] w fun e w' => e = .returned (.tuple #[.int .i64 (parO h), .int .i64 (parG h), .int .i64 (parE h)]) ∧ w = w' := by
  unfold parO parG parE
  by_cases e : hB h = true
  · rw [if_pos e, if_pos e, if_pos e]
    exact parse_ok h w (hB_yes e).1 (hB_yes e).2
  · rw [if_neg e, if_neg e, if_neg e]
    exact parse_no h w (hB_no e)

theorem rparse_any (h : Int) (w : World) :
    Calls Try.prog 18 #[.int .i64 h] w fun e w' => e = .returned (.tuple #[.int .i64 (parO h), .int .i64 (parG h), .int .i64 (parE h)]) ∧ w = w' := by
  unfold parO parG parE
  by_cases e : hB h = true
  · rw [if_pos e, if_pos e, if_pos e]
    exact rparse_ok h w (hB_yes e).1 (hB_yes e).2
  · rw [if_neg e, if_neg e, if_neg e]
    exact rparse_no h w (hB_no e)

theorem next_ok (g : Int) (w : World) (h0 : 0 ≤ g) (h1 : g ≤ 4094) :
    Calls Try.prog 20 #[.int .i64 g] w fun e w' => e = .returned (.int .i64 (g + 1)) ∧ w = w' := by
  go_enter Try.func20, Try.ntmps20
  go_wp2
  go_ret
  exact ⟨rfl, rfl⟩

theorem next_no (g : Int) (w : World) (h : g < 0 ∨ 4094 < g) :
    Calls Try.prog 20 #[.int .i64 g] w fun e w' => e = .returned (.int .i64 (-1)) ∧ w = w' := by
  by_cases h0 : g < 0
  · go_enter Try.func20, Try.ntmps20
    go_wp2
    go_ret
    exact ⟨rfl, rfl⟩
  · by_cases h1 : g = 4095
    · subst h1
      go_enter Try.func20, Try.ntmps20
      go_wp2
      go_ret
      exact ⟨rfl, rfl⟩
    · have h2 : 4095 < g := by omega
      go_enter Try.func20, Try.ntmps20
      go_wp2
      go_ret
      exact ⟨rfl, rfl⟩

theorem rnext_ok (g : Int) (w : World) (h0 : 0 ≤ g) (h1 : g ≤ 4094) :
    Calls Try.prog 21 #[.int .i64 g] w fun e w' => e = .returned (.int .i64 (g + 1)) ∧ w = w' := by
  go_enter Try.func21, Try.ntmps21
  go_wp2
  go_ret
  exact ⟨rfl, rfl⟩

theorem rnext_no (g : Int) (w : World) (h : g < 0 ∨ 4094 < g) :
    Calls Try.prog 21 #[.int .i64 g] w fun e w' => e = .returned (.int .i64 (-1)) ∧ w = w' := by
  by_cases h0 : g < 0
  · go_enter Try.func21, Try.ntmps21
    go_wp2
    go_ret
    exact ⟨rfl, rfl⟩
  · have h1 : 4094 < g := by omega
    go_enter Try.func21, Try.ntmps21
    go_wp2
    go_ret
    exact ⟨rfl, rfl⟩

theorem next_any (g : Int) (w : World) :
    Calls Try.prog 20 #[.int .i64 g] w fun e w' => e = .returned (.int .i64 (nextV g)) ∧ w = w' := by
  unfold nextV
  by_cases h : 0 ≤ g ∧ g ≤ 4094
  · rw [if_pos h]
    exact next_ok g w h.1 h.2
  · rw [if_neg h]
    exact next_no g w (by omega)

theorem rnext_any (g : Int) (w : World) :
    Calls Try.prog 21 #[.int .i64 g] w fun e w' => e = .returned (.int .i64 (nextV g)) ∧ w = w' := by
  unfold nextV
  by_cases h : 0 ≤ g ∧ g ≤ 4094
  · rw [if_pos h]
    exact rnext_ok g w h.1 h.2
  · rw [if_neg h]
    exact rnext_no g w (by omega)

end Go.Proofs.Ytmicdinibeddmaa
