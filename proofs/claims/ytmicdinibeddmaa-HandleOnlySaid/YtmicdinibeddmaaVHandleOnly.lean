/-
  The walk of HandleOnly: it returns true at every list and every handle, and writes nothing that was there.
-/
import Derived.Test.YtmicdinibeddmaaHandLive
namespace Go.Proofs.Ytmicdinibeddmaa
open Go.RowKit

/-- How many of the first k places are in use. -/
def cnt (zs : List Int) (k : Nat) : Nat := ((zs.take k).filter genB).length

theorem cnt_le (zs : List Int) (k : Nat) : cnt zs k ≤ k := by
  unfold cnt
  have h1 := List.length_filter_le genB (zs.take k)
  have h2 : (zs.take k).length ≤ k := List.length_take_le _ _
  omega
theorem cnt_succ (zs : List Int) (k : Nat) (h : k < zs.length) : cnt zs (k + 1) = cnt zs k + (if genB (zs.getD k 0) = true then 1 else 0) := by
  unfold cnt
  rw [List.take_succ_eq_append_getElem h, List.filter_append]
  have e : zs.getD k 0 = zs[k] := by simp [List.getD_eq_getElem?_getD, h]
  rw [e]
  by_cases hg : genB zs[k] = true <;> simp [hg]

theorem of_live {zs : List Int} {k : Nat} (h : k < zs.length) (h6 : k < 64) (hg : genB (zs.getD k 0) = true) :
    ofE zs k = 0 ∧ parO (ofV zs k) = k ∧ parG (ofV zs k) = zs.getD k 0 ∧ parE (ofV zs k) = 0 ∧ isV zs (ofV zs k) = true := by
  have hi : inB zs k = true := by simp [inB, h]; omega
  have hz : 0 ≤ zs.getD k 0 ∧ zs.getD k 0 ≤ 4095 := by
    have hg' := hg
    unfold genB at hg'
    exact of_decide_eq_true hg'
  have e1 : ofE zs k = 0 := by
    unfold ofE
    rw [if_pos hi, Int.toNat_natCast, if_pos hg]
  have e2 : ofV zs k = zs.getD k 0 * 64 + k := by
    unfold ofV
    rw [if_pos hi, Int.toNat_natCast, if_pos hg]
  have hb : hB (ofV zs k) = true := by rw [e2]; simp only [hB]; exact decide_eq_true (by omega)
  have e3 : parO (ofV zs k) = k := by unfold parO; rw [if_pos hb, e2]; omega
  have e4 : parG (ofV zs k) = zs.getD k 0 := by unfold parG; rw [if_pos hb, e2]; omega
  refine ⟨e1, e3, e4, by unfold parE; rw [if_pos hb], ?_⟩
  unfold isV
  rw [hb, e3, e4, Int.toNat_natCast]
  simp [h]

theorem of_dead {zs : List Int} {k : Nat} (h : k < zs.length) (h6 : k < 64) (hg : ¬ genB (zs.getD k 0) = true) : ofE zs k = 80 := by
  have hi : inB zs k = true := by simp [inB, h]; omega
  unfold ofE
  rw [if_pos hi, Int.toNat_natCast, if_neg hg]

theorem only_long (A : Option Addr) (n c : Nat) (h : Int) (w : World) (hn : 64 < n) :
    Calls Try.prog 9 #[.slice A n c, .int .i64 h] w fun e w' => e = .returned (.bool true) ∧ Below w.heap.size w w' := by
  go_enter Try.func9, Try.ntmps9
  go_wp2_with (first
    | (go_at_call 22; refine (live8_any _).mono ?_; rintro e w1 ⟨rfl, hb⟩))
  go_ret
  exact ⟨rfl, hb⟩

set_option maxHeartbeats 1600000 in
theorem only_short (A : Option Addr) (n c : Nat) (zs : List Int) (h : Int) (w : World) (hr : Rd w w.heap.size A n zs) (hn : n ≤ 64) :
    Calls Try.prog 9 #[.slice A n c, .int .i64 h] w fun e w' => e = .returned (.bool true) ∧ Below w.heap.size w w' := by
  have HL := hid hr.len
  have HX := hid hr.2.2
  go_enter Try.func9, Try.ntmps9
  go_wp2_with fail
  go_loop [5, 6] (fun m i => ∃ k : Nat, k ≤ n ∧ i = .int .i64 k ∧ m = .int .i64 (cnt zs k)) (fun _ i => n - (intOf i).toNat)
  case atStart => exact ⟨0, Nat.zero_le _, rfl, rfl⟩
  case round =>
    obtain ⟨k, hk, rfl, rfl⟩ := hrel
    have hcl := cnt_le zs k
    by_cases hlt : k < n
    · have hkl : k < zs.length := by have := HL.out; omega
      obtain ⟨b, off, rfl, _, hc⟩ := HX.out (by omega)
      have hcs := cnt_succ zs k hkl
      by_cases hg : genB (zs.getD k 0) = true
      · obtain ⟨p0, p1, p2, p3, p4⟩ := of_live hkl (by omega) hg
        rw [if_pos hg] at hcs
        have HCS := hid hcs
        have hc1 := hc k hlt
        obtain ⟨z, hz⟩ : ∃ z, z = zs.getD k 0 := ⟨_, rfl⟩
        rw [← hz] at hc1 p2
        clear hcs hc hz hg hkl
        go_wp2_with (first
          | (go_at_call 29; refine (of_any _ _ _ _ _ _ _ hr).mono ?_; rintro e w' ⟨rfl, rfl⟩)
          | (go_at_call 17; refine (parse_any _ _).mono ?_; rintro e w' ⟨rfl, rfl⟩)
          | (go_at_call 31; refine (is_any _ _ _ _ _ _ _ hr).mono ?_; rintro e w' ⟨rfl, rfl⟩)
          | (go_at_call 19; refine (num8_any _ _).mono ?_; rintro e w' ⟨rfl, rfl⟩))
        go_round
        case rel => exact ⟨k + 1, by omega, by go_num, by rw [HCS.out]; go_num⟩
        case measure => simp [intOf]; omega
      · have p0 := of_dead hkl (by omega) hg
        rw [if_neg hg] at hcs
        have HCS := hid hcs
        clear hcs hc hg hkl
        go_wp2_with (first
          | (go_at_call 29; refine (of_any _ _ _ _ _ _ _ hr).mono ?_; rintro e w' ⟨rfl, rfl⟩)
          | (go_at_call 19; refine (num8_any _ _).mono ?_; rintro e w' ⟨rfl, rfl⟩))
        go_round
        case rel => exact ⟨k + 1, by omega, by go_num, by rw [HCS.out]; go_num⟩
        case measure => simp [intOf]; omega
    · obtain rfl : n = k := by omega
      clear hlt hk
      go_wp2_with fail
      go_loop [12, 13] (fun m i => ∃ k : Nat, k ≤ n ∧ i = .int .i64 k ∧ m = .int .i64 (cnt zs k)) (fun _ i => n - (intOf i).toNat)
      case atStart => exact ⟨0, Nat.zero_le _, rfl, rfl⟩
      case round =>
        obtain ⟨k, hk, rfl, rfl⟩ := hrel
        have hck := cnt_le zs k
        by_cases hlt : k < n
        · have hkl : k < zs.length := by have := HL.out; omega
          obtain ⟨b, off, rfl, _, hc⟩ := HX.out (by omega)
          have hcs := cnt_succ zs k hkl
          have hc1 := hc k hlt
          obtain ⟨z, hz⟩ : ∃ z, z = zs.getD k 0 := ⟨_, rfl⟩
          rw [← hz] at hc1 hcs
          by_cases hg : genB z = true
          · rw [if_pos hg] at hcs
            have hz2 : 0 ≤ z ∧ z ≤ 4095 := by unfold genB at hg; exact of_decide_eq_true hg
            obtain ⟨hz3, hz4⟩ := hz2
            have HCS := hid hcs
            clear hcs hc hz hg hkl
            go_wp2
            go_round
            case rel => exact ⟨k + 1, by omega, by go_num, by rw [HCS.out]; go_num⟩
            case measure => simp [intOf]; omega
          · rw [if_neg hg] at hcs
            have hz2 : z < 0 ∨ (0 ≤ z ∧ decide (z ≤ 4095) = false) := by
              simp [genB] at hg
              simp
              omega
            have HCS := hid hcs
            clear hcs hc hz hg hkl
            rcases hz2 with hz2 | ⟨hz2, hz3⟩
            all_goals
              go_wp2
              go_round
              case rel => exact ⟨k + 1, by omega, by go_num, by rw [HCS.out]; go_num⟩
              case measure => simp [intOf]; omega
        · obtain rfl : n = k := by omega
          clear hlt hk
          have hpr := par_range h
          by_cases he : hB h = true
          · have h1 : parE h = 0 := by unfold parE; rw [if_pos he]
            by_cases hp : (n : Int) ≤ parO h
            · have h2 : isV zs h = false := by
                have : ¬ parO h < zs.length := by have := HL.out; omega
                simp [isV, this]
              clear he hpr
              go_wp2_with (first
                | (go_at_call 17; refine (parse_any _ _).mono ?_; rintro e w' ⟨rfl, rfl⟩)
                | (go_at_call 31; refine (is_any _ _ _ _ _ _ _ hr).mono ?_; rintro e w' ⟨rfl, rfl⟩)
                | (go_at_call 22; refine (live8_any _).mono ?_; rintro e w1 ⟨rfl, hb⟩)
                | (go_at_call 19; refine (num8_any _ _).mono ?_; rintro e w' ⟨rfl, rfl⟩))
              go_ret
              exact ⟨rfl, hb⟩
            · obtain ⟨k, hk⟩ := Int.eq_ofNat_of_zero_le hpr.1
              have hkn : k < n := by omega
              obtain ⟨b, off, rfl, _, hc⟩ := HX.out (by omega)
              have hc1 := hc k hkn
              have e1 : isV zs h = decide (zs.getD k 0 = parG h) := by
                have h2 : parO h < zs.length := by have := HL.out; omega
                have h3 : (parO h).toNat = k := by omega
                unfold isV
                rw [h3, he]
                simp [h2]
              obtain ⟨z, hz⟩ : ∃ z, z = zs.getD k 0 := ⟨_, rfl⟩
              rw [← hz] at hc1 e1
              have hzz : (isV zs h = true ∧ (z == parG h) = true) ∨ (isV zs h = false ∧ (z == parG h) = false) := by
                rw [e1]
                by_cases hq : z = parG h
                · exact .inl ⟨by simp [hq], by simp [hq]⟩
                · exact .inr ⟨by simp [hq], by simp [hq]⟩
              clear he hpr hz e1 hc hp
              rcases hzz with ⟨h4, h5⟩ | ⟨h4, h5⟩
              all_goals
                go_wp2_with (first
                  | (go_at_call 17; refine (parse_any _ _).mono ?_; rintro e w' ⟨rfl, rfl⟩)
                  | (go_at_call 31; refine (is_any _ _ _ _ _ _ _ hr).mono ?_; rintro e w' ⟨rfl, rfl⟩)
                  | (go_at_call 22; refine (live8_any _).mono ?_; rintro e w1 ⟨rfl, hb⟩)
                  | (go_at_call 19; refine (num8_any _ _).mono ?_; rintro e w' ⟨rfl, rfl⟩))
                go_ret
                exact ⟨rfl, by assumption⟩
          · have h1 : parE h = 2 := by unfold parE; rw [if_neg he]
            have h2 : isV zs h = false := by simp [isV, he]
            clear he hpr
            go_wp2_with (first
              | (go_at_call 17; refine (parse_any _ _).mono ?_; rintro e w' ⟨rfl, rfl⟩)
              | (go_at_call 31; refine (is_any _ _ _ _ _ _ _ hr).mono ?_; rintro e w' ⟨rfl, rfl⟩)
              | (go_at_call 22; refine (live8_any _).mono ?_; rintro e w1 ⟨rfl, hb⟩)
              | (go_at_call 19; refine (num8_any _ _).mono ?_; rintro e w' ⟨rfl, rfl⟩))
            go_ret
            exact ⟨rfl, hb⟩

theorem vHandleOnly_walk (A : Option Addr) (n c : Nat) (zs : List Int) (h : Int) (w : World) (w0 : Rd w w.heap.size A n zs) (_w1 : (Lit.int .i64 h).wf = true) :
    Calls Try.prog 9 #[.slice A n c, .int .i64 h] w fun e w' => e = .returned (.bool true) ∧ Below w.heap.size w w' := by
  by_cases hn : 64 < n
  · exact only_long A n c h w hn
  · exact only_short A n c zs h w w0 (by omega)
end Go.Proofs.Ytmicdinibeddmaa
