/-
  What rights.Parse answers: a contract for every text; it makes an iterator and writes nothing old.
-/
import Derived.Test.YtmicdinibeddmaaTell
namespace Go.Proofs.Ytmicdinibeddmaa
open Go.RowKit

/-- How a call of Parse ends. -/
def Parsed (s : ByteArray) (w : World) (e : Ending) (w' : World) : Prop := e = .returned (.tuple #[.int .i64 (parV s), .int .i64 (parF s)]) ∧ Below w.heap.size w w'

theorem iter_below (w : World) (s : ByteArray) (k : Nat) : Below w.heap.size w (w.iter s k) := (Below.refl _ _).alloc (Nat.le_refl _) _

theorem parse_size (s : ByteArray) (w : World) (h : s.size ≠ 4) : Calls Try.prog 32 #[.string s] w (Parsed s w) := by
  have hfin := hid (parse_bad (.inl h))
  have h1 : ((s.size : Int) == 4) = false := by simp; omega
  have h2 : ((s.size : Int) != 4) = true := by simp; omega
  clear h
  go_enter Try.func32, Try.ntmps32
  go_wp2
  go_ret2
  exact ⟨by rw [hfin.out.1, hfin.out.2]; rfl, Below.refl _ _⟩

/-- The three ways of a byte c at a place whose sign is g. -/
theorem byte_ways (c g : UInt8) : ((c == g) = true ∧ ((c.toNat : Int) == (g.toNat : Int)) = true) ∨ ((c == g) = false ∧ (c == 45) = true ∧ ((c.toNat : Int) == (g.toNat : Int)) = false ∧ ((c.toNat : Int) == 45) = true) ∨
    ((c == g) = false ∧ (c == 45) = false ∧ ((c.toNat : Int) == (g.toNat : Int)) = false ∧ ((c.toNat : Int) == 45) = false) := by
  have inj : ∀ x y : UInt8, ((x.toNat : Int) == (y.toNat : Int)) = (x == y) := by
    intro x y
    rw [Bool.eq_iff_iff, beq_iff_eq, beq_iff_eq]
    constructor
    · intro h
      exact UInt8.toNat_inj.1 (by omega)
    · intro h
      rw [h]
  have h45 : ((c.toNat : Int) == 45) = (c == 45) := inj c 45
  rw [inj, h45]
  by_cases h1 : c = g
  · exact .inl ⟨by simp [h1], by simp [h1]⟩
  · by_cases h2 : c = 45
    · exact .inr (.inl ⟨by simp [h1], by simp [h2], by simp [h1], by simp [h2]⟩)
    · exact .inr (.inr ⟨by simp [h1], by simp [h2], by simp [h1], by simp [h2]⟩)

set_option maxHeartbeats 2000000 in
theorem parse_four (s : ByteArray) (w : World) (h : s.size = 4) : Calls Try.prog 32 #[.string s] w (Parsed s w) := by
  have HS := hid h
  have hlo : s.size ≤ 4 := by omega
  have hhi : 4 ≤ s.size := by omega
  have h1 : ((s.size : Int) != 4) = false := by simp; omega
  clear h
  go_enter Try.func32, Try.ntmps32
  go_wp2_with fail
  go_loopw [2] (fun r wr => ∃ k : Nat, k ≤ 4 ∧ wr = w.iter s k ∧ r = .int .i64 (sumB (gotB s) k) ∧ (∀ j, j < k → okB s j = true)) (fun _ wr => 4 - wr.iterPos w.heap.size)
  case atStart => exact ⟨0, Nat.zero_le _, rfl, rfl, fun j hj => by omega⟩
  case round =>
    obtain ⟨k, hk, rfl, rfl, hall⟩ := hrel
    have HA := hid hall
    clear hall
    have hk5 : k = 0 ∨ k = 1 ∨ k = 2 ∨ k = 3 ∨ k = 4 := by omega
    clear hk
    rcases hk5 with rfl | rfl | rfl | rfl | rfl
    · obtain ⟨c, hc⟩ : ∃ c, c = s[0]'(by omega) := ⟨_, rfl⟩
      have hsg : wrap32 (((({ data := #[114, 119, 103, 99] } : ByteArray)[0]'(by decide)).toNat : Nat) : Int) = 114 := by decide +kernel
      have hb := hid ((byteAt_eq s 0 (by omega)).trans hc.symm)
      by_cases ha : c.toNat < 128
      · have hnx : ∀ ty, (Instr.next (.pointer (some ⟨w.heap.size, 0, none⟩)) true ty).run Try.prog (w.iter s 0) = .ok (.tuple #[.bool true, .int .i64 0, .int .i32 c.toNat]) (w.iter s 1) := fun ty => by
          have h := run_next_ascii (P := Try.prog) w s 0 ty (by omega) (by rw [← hc]; exact ha)
          rw [← hc] at h
          exact h
        clear hc
        rcases byte_ways c 114 with ⟨b1, b2⟩ | ⟨b1, b2, b3, b4⟩ | ⟨b1, b2, b3, b4⟩
        · have hg : Hid (gotB s 0 = true) := by show (byteAt s 0 == 114) = true; rw [hb.out]; exact b1
          have ho : Hid (okB s 0 = true) := by show (byteAt s 0 == 114 || byteAt s 0 == 45) = true; rw [hb.out, b1]; rfl
          have hor : bits .or .i64 (sumB (gotB s) 0) 1 = sumB (gotB s) 1 := or_step (k := 0) (by omega) hg.out
          have B2 : ((c.toNat : Int) == 114) = true := b2
          clear b1 b2
          go_wp2
          go_roundw
          case rel => exact ⟨1, by omega, rfl, rfl, fun j hj => if h : j < 0 then HA.out j h else by rw [show j = 0 by omega]; exact ho.out⟩
          case measure => simp
        · have hg : Hid (gotB s 0 = false) := by show (byteAt s 0 == 114) = false; rw [hb.out]; exact b1
          have ho : Hid (okB s 0 = true) := by show (byteAt s 0 == 114 || byteAt s 0 == 45) = true; rw [hb.out, b2]; exact Bool.or_true _
          have hsm := hid (sum_same hg.out)
          have B3 : ((c.toNat : Int) == 114) = false := b3
          clear b1 b2 b3
          go_wp2
          go_roundw
          case rel => exact ⟨1, by omega, rfl, by rw [show (1 : Nat) = 0 + 1 from rfl, hsm.out], fun j hj => if h : j < 0 then HA.out j h else by rw [show j = 0 by omega]; exact ho.out⟩
          case measure => simp
        · have ho : okB s 0 = false := by show (byteAt s 0 == 114 || byteAt s 0 == 45) = false; rw [hb.out, b1, b2]; rfl
          have hfin := hid (parse_bad (.inr ⟨0, by omega, ho⟩))
          have B3 : ((c.toNat : Int) == 114) = false := b3
          clear b1 b2 b3 ho
          go_wp2
          go_ret2
          exact ⟨by rw [hfin.out.1, hfin.out.2]; rfl, iter_below _ _ _⟩
      · obtain ⟨m, hm⟩ : ∃ m, m = (Utf8.decode s 0).1 := ⟨_, rfl⟩
        obtain ⟨p, hp⟩ : ∃ p, p = 0 + (Utf8.decode s 0).2 := ⟨_, rfl⟩
        have hhigh : 128 ≤ m := by rw [hm]; exact (decode_high s 0 (by omega) (by rw [← hc]; omega)).1
        have hnx : ∀ ty, (Instr.next (.pointer (some ⟨w.heap.size, 0, none⟩)) true ty).run Try.prog (w.iter s 0) = .ok (.tuple #[.bool true, .int .i64 0, .int .i32 m]) (w.iter s p) := fun ty => by
          have h := run_next_any (P := Try.prog) w s 0 ty (by omega)
          rw [← hm, ← hp] at h
          exact h
        have ho : okB s 0 = false := by
          have h2 : ∀ x : UInt8, x.toNat < 128 → (c == x) = false := by
            intro x hx
            cases h3 : c == x
            · rfl
            · rw [beq_iff_eq] at h3
              rw [h3] at ha
              omega
          show (byteAt s 0 == 114 || byteAt s 0 == 45) = false
          rw [hb.out, h2 114 (by decide), h2 45 (by decide)]
          rfl
        have hfin := hid (parse_bad (.inr ⟨0, by omega, ho⟩))
        have B3 : ((m : Int) == 114) = false := by simp; omega
        have B4 : ((m : Int) == 45) = false := by simp; omega
        clear hc hm hp ho ha
        go_wp2
        go_ret2
        exact ⟨by rw [hfin.out.1, hfin.out.2]; rfl, iter_below _ _ _⟩
    · obtain ⟨c, hc⟩ : ∃ c, c = s[1]'(by omega) := ⟨_, rfl⟩
      have hsg : wrap32 (((({ data := #[114, 119, 103, 99] } : ByteArray)[1]'(by decide)).toNat : Nat) : Int) = 119 := by decide +kernel
      have hb := hid ((byteAt_eq s 1 (by omega)).trans hc.symm)
      by_cases ha : c.toNat < 128
      · have hnx : ∀ ty, (Instr.next (.pointer (some ⟨w.heap.size, 0, none⟩)) true ty).run Try.prog (w.iter s 1) = .ok (.tuple #[.bool true, .int .i64 1, .int .i32 c.toNat]) (w.iter s 2) := fun ty => by
          have h := run_next_ascii (P := Try.prog) w s 1 ty (by omega) (by rw [← hc]; exact ha)
          rw [← hc] at h
          exact h
        clear hc
        rcases byte_ways c 119 with ⟨b1, b2⟩ | ⟨b1, b2, b3, b4⟩ | ⟨b1, b2, b3, b4⟩
        · have hg : Hid (gotB s 1 = true) := by show (byteAt s 1 == 119) = true; rw [hb.out]; exact b1
          have ho : Hid (okB s 1 = true) := by show (byteAt s 1 == 119 || byteAt s 1 == 45) = true; rw [hb.out, b1]; rfl
          have hor : bits .or .i64 (sumB (gotB s) 1) 2 = sumB (gotB s) 2 := or_step (k := 1) (by omega) hg.out
          have B2 : ((c.toNat : Int) == 119) = true := b2
          clear b1 b2
          go_wp2
          go_roundw
          case rel => exact ⟨2, by omega, rfl, rfl, fun j hj => if h : j < 1 then HA.out j h else by rw [show j = 1 by omega]; exact ho.out⟩
          case measure => simp
        · have hg : Hid (gotB s 1 = false) := by show (byteAt s 1 == 119) = false; rw [hb.out]; exact b1
          have ho : Hid (okB s 1 = true) := by show (byteAt s 1 == 119 || byteAt s 1 == 45) = true; rw [hb.out, b2]; exact Bool.or_true _
          have hsm := hid (sum_same hg.out)
          have B3 : ((c.toNat : Int) == 119) = false := b3
          clear b1 b2 b3
          go_wp2
          go_roundw
          case rel => exact ⟨2, by omega, rfl, by rw [show (2 : Nat) = 1 + 1 from rfl, hsm.out], fun j hj => if h : j < 1 then HA.out j h else by rw [show j = 1 by omega]; exact ho.out⟩
          case measure => simp
        · have ho : okB s 1 = false := by show (byteAt s 1 == 119 || byteAt s 1 == 45) = false; rw [hb.out, b1, b2]; rfl
          have hfin := hid (parse_bad (.inr ⟨1, by omega, ho⟩))
          have B3 : ((c.toNat : Int) == 119) = false := b3
          clear b1 b2 b3 ho
          go_wp2
          go_ret2
          exact ⟨by rw [hfin.out.1, hfin.out.2]; rfl, iter_below _ _ _⟩
      · obtain ⟨m, hm⟩ : ∃ m, m = (Utf8.decode s 1).1 := ⟨_, rfl⟩
        obtain ⟨p, hp⟩ : ∃ p, p = 1 + (Utf8.decode s 1).2 := ⟨_, rfl⟩
        have hhigh : 128 ≤ m := by rw [hm]; exact (decode_high s 1 (by omega) (by rw [← hc]; omega)).1
        have hnx : ∀ ty, (Instr.next (.pointer (some ⟨w.heap.size, 0, none⟩)) true ty).run Try.prog (w.iter s 1) = .ok (.tuple #[.bool true, .int .i64 1, .int .i32 m]) (w.iter s p) := fun ty => by
          have h := run_next_any (P := Try.prog) w s 1 ty (by omega)
          rw [← hm, ← hp] at h
          exact h
        have ho : okB s 1 = false := by
          have h2 : ∀ x : UInt8, x.toNat < 128 → (c == x) = false := by
            intro x hx
            cases h3 : c == x
            · rfl
            · rw [beq_iff_eq] at h3
              rw [h3] at ha
              omega
          show (byteAt s 1 == 119 || byteAt s 1 == 45) = false
          rw [hb.out, h2 119 (by decide), h2 45 (by decide)]
          rfl
        have hfin := hid (parse_bad (.inr ⟨1, by omega, ho⟩))
        have B3 : ((m : Int) == 119) = false := by simp; omega
        have B4 : ((m : Int) == 45) = false := by simp; omega
        clear hc hm hp ho ha
        go_wp2
        go_ret2
        exact ⟨by rw [hfin.out.1, hfin.out.2]; rfl, iter_below _ _ _⟩
    · obtain ⟨c, hc⟩ : ∃ c, c = s[2]'(by omega) := ⟨_, rfl⟩
      have hsg : wrap32 (((({ data := #[114, 119, 103, 99] } : ByteArray)[2]'(by decide)).toNat : Nat) : Int) = 103 := by decide +kernel
      have hb := hid ((byteAt_eq s 2 (by omega)).trans hc.symm)
      by_cases ha : c.toNat < 128
      · have hnx : ∀ ty, (Instr.next (.pointer (some ⟨w.heap.size, 0, none⟩)) true ty).run Try.prog (w.iter s 2) = .ok (.tuple #[.bool true, .int .i64 2, .int .i32 c.toNat]) (w.iter s 3) := fun ty => by
          have h := run_next_ascii (P := Try.prog) w s 2 ty (by omega) (by rw [← hc]; exact ha)
          rw [← hc] at h
          exact h
        clear hc
        rcases byte_ways c 103 with ⟨b1, b2⟩ | ⟨b1, b2, b3, b4⟩ | ⟨b1, b2, b3, b4⟩
        · have hg : Hid (gotB s 2 = true) := by show (byteAt s 2 == 103) = true; rw [hb.out]; exact b1
          have ho : Hid (okB s 2 = true) := by show (byteAt s 2 == 103 || byteAt s 2 == 45) = true; rw [hb.out, b1]; rfl
          have hor : bits .or .i64 (sumB (gotB s) 2) 4 = sumB (gotB s) 3 := or_step (k := 2) (by omega) hg.out
          have B2 : ((c.toNat : Int) == 103) = true := b2
          clear b1 b2
          go_wp2
          go_roundw
          case rel => exact ⟨3, by omega, rfl, rfl, fun j hj => if h : j < 2 then HA.out j h else by rw [show j = 2 by omega]; exact ho.out⟩
          case measure => simp
        · have hg : Hid (gotB s 2 = false) := by show (byteAt s 2 == 103) = false; rw [hb.out]; exact b1
          have ho : Hid (okB s 2 = true) := by show (byteAt s 2 == 103 || byteAt s 2 == 45) = true; rw [hb.out, b2]; exact Bool.or_true _
          have hsm := hid (sum_same hg.out)
          have B3 : ((c.toNat : Int) == 103) = false := b3
          clear b1 b2 b3
          go_wp2
          go_roundw
          case rel => exact ⟨3, by omega, rfl, by rw [show (3 : Nat) = 2 + 1 from rfl, hsm.out], fun j hj => if h : j < 2 then HA.out j h else by rw [show j = 2 by omega]; exact ho.out⟩
          case measure => simp
        · have ho : okB s 2 = false := by show (byteAt s 2 == 103 || byteAt s 2 == 45) = false; rw [hb.out, b1, b2]; rfl
          have hfin := hid (parse_bad (.inr ⟨2, by omega, ho⟩))
          have B3 : ((c.toNat : Int) == 103) = false := b3
          clear b1 b2 b3 ho
          go_wp2
          go_ret2
          exact ⟨by rw [hfin.out.1, hfin.out.2]; rfl, iter_below _ _ _⟩
      · obtain ⟨m, hm⟩ : ∃ m, m = (Utf8.decode s 2).1 := ⟨_, rfl⟩
        obtain ⟨p, hp⟩ : ∃ p, p = 2 + (Utf8.decode s 2).2 := ⟨_, rfl⟩
        have hhigh : 128 ≤ m := by rw [hm]; exact (decode_high s 2 (by omega) (by rw [← hc]; omega)).1
        have hnx : ∀ ty, (Instr.next (.pointer (some ⟨w.heap.size, 0, none⟩)) true ty).run Try.prog (w.iter s 2) = .ok (.tuple #[.bool true, .int .i64 2, .int .i32 m]) (w.iter s p) := fun ty => by
          have h := run_next_any (P := Try.prog) w s 2 ty (by omega)
          rw [← hm, ← hp] at h
          exact h
        have ho : okB s 2 = false := by
          have h2 : ∀ x : UInt8, x.toNat < 128 → (c == x) = false := by
            intro x hx
            cases h3 : c == x
            · rfl
            · rw [beq_iff_eq] at h3
              rw [h3] at ha
              omega
          show (byteAt s 2 == 103 || byteAt s 2 == 45) = false
          rw [hb.out, h2 103 (by decide), h2 45 (by decide)]
          rfl
        have hfin := hid (parse_bad (.inr ⟨2, by omega, ho⟩))
        have B3 : ((m : Int) == 103) = false := by simp; omega
        have B4 : ((m : Int) == 45) = false := by simp; omega
        clear hc hm hp ho ha
        go_wp2
        go_ret2
        exact ⟨by rw [hfin.out.1, hfin.out.2]; rfl, iter_below _ _ _⟩
    · obtain ⟨c, hc⟩ : ∃ c, c = s[3]'(by omega) := ⟨_, rfl⟩
      have hsg : wrap32 (((({ data := #[114, 119, 103, 99] } : ByteArray)[3]'(by decide)).toNat : Nat) : Int) = 99 := by decide +kernel
      have hb := hid ((byteAt_eq s 3 (by omega)).trans hc.symm)
      by_cases ha : c.toNat < 128
      · have hnx : ∀ ty, (Instr.next (.pointer (some ⟨w.heap.size, 0, none⟩)) true ty).run Try.prog (w.iter s 3) = .ok (.tuple #[.bool true, .int .i64 3, .int .i32 c.toNat]) (w.iter s 4) := fun ty => by
          have h := run_next_ascii (P := Try.prog) w s 3 ty (by omega) (by rw [← hc]; exact ha)
          rw [← hc] at h
          exact h
        clear hc
        rcases byte_ways c 99 with ⟨b1, b2⟩ | ⟨b1, b2, b3, b4⟩ | ⟨b1, b2, b3, b4⟩
        · have hg : Hid (gotB s 3 = true) := by show (byteAt s 3 == 99) = true; rw [hb.out]; exact b1
          have ho : Hid (okB s 3 = true) := by show (byteAt s 3 == 99 || byteAt s 3 == 45) = true; rw [hb.out, b1]; rfl
          have hor : bits .or .i64 (sumB (gotB s) 3) 8 = sumB (gotB s) 4 := or_step (k := 3) (by omega) hg.out
          have B2 : ((c.toNat : Int) == 99) = true := b2
          clear b1 b2
          go_wp2
          go_roundw
          case rel => exact ⟨4, by omega, rfl, rfl, fun j hj => if h : j < 3 then HA.out j h else by rw [show j = 3 by omega]; exact ho.out⟩
          case measure => simp
        · have hg : Hid (gotB s 3 = false) := by show (byteAt s 3 == 99) = false; rw [hb.out]; exact b1
          have ho : Hid (okB s 3 = true) := by show (byteAt s 3 == 99 || byteAt s 3 == 45) = true; rw [hb.out, b2]; exact Bool.or_true _
          have hsm := hid (sum_same hg.out)
          have B3 : ((c.toNat : Int) == 99) = false := b3
          clear b1 b2 b3
          go_wp2
          go_roundw
          case rel => exact ⟨4, by omega, rfl, by rw [show (4 : Nat) = 3 + 1 from rfl, hsm.out], fun j hj => if h : j < 3 then HA.out j h else by rw [show j = 3 by omega]; exact ho.out⟩
          case measure => simp
        · have ho : okB s 3 = false := by show (byteAt s 3 == 99 || byteAt s 3 == 45) = false; rw [hb.out, b1, b2]; rfl
          have hfin := hid (parse_bad (.inr ⟨3, by omega, ho⟩))
          have B3 : ((c.toNat : Int) == 99) = false := b3
          clear b1 b2 b3 ho
          go_wp2
          go_ret2
          exact ⟨by rw [hfin.out.1, hfin.out.2]; rfl, iter_below _ _ _⟩
      · obtain ⟨m, hm⟩ : ∃ m, m = (Utf8.decode s 3).1 := ⟨_, rfl⟩
        obtain ⟨p, hp⟩ : ∃ p, p = 3 + (Utf8.decode s 3).2 := ⟨_, rfl⟩
        have hhigh : 128 ≤ m := by rw [hm]; exact (decode_high s 3 (by omega) (by rw [← hc]; omega)).1
        have hnx : ∀ ty, (Instr.next (.pointer (some ⟨w.heap.size, 0, none⟩)) true ty).run Try.prog (w.iter s 3) = .ok (.tuple #[.bool true, .int .i64 3, .int .i32 m]) (w.iter s p) := fun ty => by
          have h := run_next_any (P := Try.prog) w s 3 ty (by omega)
          rw [← hm, ← hp] at h
          exact h
        have ho : okB s 3 = false := by
          have h2 : ∀ x : UInt8, x.toNat < 128 → (c == x) = false := by
            intro x hx
            cases h3 : c == x
            · rfl
            · rw [beq_iff_eq] at h3
              rw [h3] at ha
              omega
          show (byteAt s 3 == 99 || byteAt s 3 == 45) = false
          rw [hb.out, h2 99 (by decide), h2 45 (by decide)]
          rfl
        have hfin := hid (parse_bad (.inr ⟨3, by omega, ho⟩))
        have B3 : ((m : Int) == 99) = false := by simp; omega
        have B4 : ((m : Int) == 45) = false := by simp; omega
        clear hc hm hp ho ha
        go_wp2
        go_ret2
        exact ⟨by rw [hfin.out.1, hfin.out.2]; rfl, iter_below _ _ _⟩
    · have hnx : ∀ ty, (Instr.next (.pointer (some ⟨w.heap.size, 0, none⟩)) true ty).run Try.prog (w.iter s 4) = _ := fun ty => run_next_end w s 4 ty (by omega)
      have hfin := hid (parse_good HS.out HA.out)
      go_wp2
      go_ret2
      exact ⟨by rw [hfin.out.1, hfin.out.2]; rfl, iter_below _ _ _⟩

theorem parse_r (s : ByteArray) (w : World) : Calls Try.prog 32 #[.string s] w (Parsed s w) := by
  by_cases h : s.size = 4
  · exact parse_four s w h
  · exact parse_size s w h
end Go.Proofs.Ytmicdinibeddmaa
