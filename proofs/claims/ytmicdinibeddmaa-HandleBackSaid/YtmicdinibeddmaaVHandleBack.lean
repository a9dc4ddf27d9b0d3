/-
  The walk of HandleBack: it returns true at every two places and generations and every handle, and writes nothing that was there.
-/
import Derived.Test.YtmicdinibeddmaaHandLive
namespace Go.Proofs.Ytmicdinibeddmaa
open Go.RowKit

theorem put_yes {o g : Int} (h : putB o g = true) : putV o g = g * 64 + o ∧ putE o g = 0 := by
  unfold putV putE
  rw [if_pos h, if_pos h]
  exact ⟨rfl, rfl⟩
theorem putE_no {o g : Int} (h : ¬ putB o g = true) : putE o g = 2 := by
  unfold putE
  rw [if_neg h]
theorem par_put {o g : Int} (h : putB o g = true) : parO (putV o g) = o ∧ parG (putV o g) = g ∧ parE (putV o g) = 0 := by
  have h1 := putB_yes h
  rw [(put_yes h).1]
  have h2 : hB (g * 64 + o) = true := by simp [hB]; omega
  unfold parO parG parE
  rw [if_pos h2, if_pos h2, if_pos h2]
  omega
theorem put_par {h : Int} (e : hB h = true) : putV (parO h) (parG h) = h ∧ putE (parO h) (parG h) = 0 ∧ parE h = 0 := by
  have h1 := hB_yes e
  have e1 : parO h = h % 64 := by unfold parO; rw [if_pos e]
  have e2 : parG h = h / 64 := by unfold parG; rw [if_pos e]
  have h2 : putB (parO h) (parG h) = true := by
    rw [e1, e2]
    simp [putB]
    omega
  rw [(put_yes h2).1, (put_yes h2).2, e1, e2]
  unfold parE
  rw [if_pos e]
  omega

theorem back_parts (o g o2 g2 : Int) :
    (putE o g = 2 ∧ putE o2 g2 = 0) ∨ (putE o g = 2 ∧ putE o2 g2 = 2) ∨
    ((putE o g = 0 ∧ parO (putV o g) = o ∧ parG (putV o g) = g ∧ parE (putV o g) = 0) ∧
      (putE o2 g2 = 2 ∨ (putE o2 g2 = 0 ∧ (((o == o2) = true ∧ (g == g2) = true ∧ (putV o g == putV o2 g2) = true) ∨ ((o == o2) = false ∧ (putV o g == putV o2 g2) = false) ∨ ((o == o2) = true ∧ (g == g2) = false ∧ (putV o g == putV o2 g2) = false))))) := by
  by_cases h1 : putB o g = true
  · have p1 := par_put h1
    have q1 := put_yes h1
    by_cases h2 : putB o2 g2 = true
    · have q2 := put_yes h2
      have r1 := putB_yes h1
      have r2 := putB_yes h2
      refine .inr (.inr ⟨⟨q1.2, p1⟩, .inr ⟨q2.2, ?_⟩⟩)
      rw [q1.1, q2.1]
      by_cases e1 : o = o2
      · by_cases e2 : g = g2
        · exact .inl ⟨by simp [e1], by simp [e2], by simp [e1, e2]⟩
        · exact .inr (.inr ⟨by simp [e1], by simp [e2], by simp; omega⟩)
      · exact .inr (.inl ⟨by simp [e1], by simp; omega⟩)
    · exact .inr (.inr ⟨⟨q1.2, p1⟩, .inl (putE_no h2)⟩)
  · by_cases h2 : putB o2 g2 = true
    · exact .inl ⟨putE_no h1, (put_yes h2).2⟩
    · exact .inr (.inl ⟨putE_no h1, putE_no h2⟩)

theorem back_last (h : Int) : parE h = 2 ∨ (putV (parO h) (parG h) = h ∧ putE (parO h) (parG h) = 0 ∧ parE h = 0) := by
  by_cases e : hB h = true
  · exact .inr (put_par e)
  · refine .inl ?_
    unfold parE
    rw [if_neg e]

set_option maxHeartbeats 1600000 in
theorem vHandleBack_walk (o g o2 g2 h : Int) (w : World) (_w0 : (Lit.int .i64 o).wf = true) (_w1 : (Lit.int .i64 g).wf = true) (_w2 : (Lit.int .i64 o2).wf = true) (_w3 : (Lit.int .i64 g2).wf = true) (_w4 : (Lit.int .i64 h).wf = true) :
    Calls Try.prog 4 #[.int .i64 o, .int .i64 g, .int .i64 o2, .int .i64 g2, .int .i64 h] w fun e w' => e = .returned (.bool true) ∧ Below w.heap.size w w' := by
  clear _w0 _w1 _w2 _w3 _w4
  have hab := back_parts o g o2 g2
  have hc := back_last h
  rcases hab with ⟨a1, a2⟩ | ⟨a1, a2⟩ | ⟨⟨a1, a2, a3, a4⟩, a5 | ⟨a5, ⟨a6, a7, a8⟩ | ⟨a6, a7⟩ | ⟨a6, a7, a8⟩⟩⟩ <;> rcases hc with c1 | ⟨c1, c2, c3⟩
  all_goals
    go_enter Try.func4, Try.ntmps4
    go_wp2_with (first
      | (go_at_call 15; refine (put_any _ _ _).mono ?_; rintro e w' ⟨rfl, rfl⟩)
      | (go_at_call 17; refine (parse_any _ _).mono ?_; rintro e w' ⟨rfl, rfl⟩)
      | (go_at_call 19; refine (num8_any _ _).mono ?_; rintro e w' ⟨rfl, rfl⟩)
      | (go_at_call 22; refine (live8_any _).mono ?_; rintro e w1 ⟨rfl, hb⟩))
    go_ret
    exact ⟨rfl, by assumption⟩
end Go.Proofs.Ytmicdinibeddmaa
