/-
  Words and small lemmas that the walks of this seat share: what a slice of ints reads as, and what a call that writes nothing old leaves. No condition.
-/
import Derived.Test.YtmicdinibeddmaaProg
import Derived.WalkKit
import Derived.WalkLawsBesides
import Derived.WalkSpells
import Derived.Below
namespace Go.Proofs.Ytmicdinibeddmaa
open Go.RowKit

/-- The slice value with address A and length n holds, in the world w, just the numbers zs, and lies below block B. -/
def Rd (w : World) (B : Nat) (A : Option Addr) (n : Nat) (zs : List Int) : Prop :=
  zs.length = n ∧ (∀ z ∈ zs, (Lit.int .i64 z).wf = true) ∧
  (0 < n → ∃ b off, A = some ⟨b, off, none⟩ ∧ b < B ∧ ∀ i, i < n → w.cell? ⟨b, off + i, none⟩ = some (.int .i64 (zs.getD i 0)))

theorem Rd.len {w : World} {B : Nat} {A : Option Addr} {n : Nat} {zs : List Int} (h : Rd w B A n zs) : zs.length = n := h.1
theorem Rd.keep {w w' : World} {B : Nat} {A : Option Addr} {n : Nat} {zs : List Int} (h : Rd w B A n zs) (hk : ∀ p : Addr, p.block < B → w'.cell? p = w.cell? p) : Rd w' B A n zs :=
  ⟨h.1, h.2.1, fun hn => by
    obtain ⟨b, off, e, hb, hc⟩ := h.2.2 hn
    exact ⟨b, off, e, hb, fun i hi => (hk _ hb).trans (hc i hi)⟩⟩
theorem Rd.below {w w' : World} {B : Nat} {A : Option Addr} {n : Nat} {zs : List Int} (h : Rd w B A n zs) (hb : Below B w w') : Rd w' B A n zs := h.keep fun _ hp => hb.cell hp
theorem Rd.more {w : World} {B B' : Nat} {A : Option Addr} {n : Nat} {zs : List Int} (h : Rd w B A n zs) (hB : B ≤ B') : Rd w B' A n zs :=
  ⟨h.1, h.2.1, fun hn => by
    obtain ⟨b, off, e, hb, hc⟩ := h.2.2 hn
    exact ⟨b, off, e, by omega, hc⟩⟩

theorem lt_of_heap {w : World} {b : Nat} {o : Obj} (h : w.heap[b]? = some o) : b < w.heap.size := by
  rcases Nat.lt_or_ge b w.heap.size with h' | h'
  · exact h'
  · simp [Array.getElem?_eq_none h'] at h

/-- Block g is a row of just the ints zs, of element type e, none frozen. -/
def Row (w : World) (g : Nat) (zs : List Int) : Prop := w.heap[g]? = some (.cells (zs.map (Value.int .i64)).toArray 3 (0, 0))

theorem Row.lt {w : World} {g : Nat} {zs : List Int} (h : Row w g zs) : g < w.heap.size := lt_of_heap h
theorem Row.cell {w : World} {g : Nat} {zs : List Int} (h : Row w g zs) (i : Nat) (hi : i < zs.length) : w.cell? ⟨g, i, none⟩ = some (.int .i64 (zs.getD i 0)) := by
  unfold Row at h
  rw [cell_of_row w g i _ 3 (0, 0) h]
  simp [List.getD_eq_getElem?_getD, hi]
theorem Row.free {w : World} {g : Nat} {zs : List Int} (h : Row w g zs) (i : Nat) : w.frozen? ⟨g, i, none⟩ = false := by
  unfold Row at h
  simp [World.frozen?, h]
theorem Row.set_ {w : World} {g : Nat} {zs : List Int} (h : Row w g zs) (i : Nat) (z : Int) : Row (w.setCell ⟨g, i, none⟩ (.int .i64 z)) g (zs.set i z) := by
  unfold Row at h ⊢
  simp [World.setCell, Array.getElem?_modify, h, List.map_set]
theorem Row.rd {w : World} {g B : Nat} {zs : List Int} (h : Row w g zs) (hB : g < B) (hw : ∀ z ∈ zs, (Lit.int .i64 z).wf = true) : Rd w B (some ⟨g, 0, none⟩) zs.length zs :=
  ⟨rfl, hw, fun _ => ⟨g, 0, rfl, hB, fun i hi => by rw [Nat.zero_add]; exact h.cell i hi⟩⟩
theorem Row.below {w w' : World} {g B : Nat} {zs : List Int} (h : Row w g zs) (hb : Below B w w') (hg : g < B) : Row w' g zs := (hb.block g hg).trans h
theorem Row.new (w : World) (zs : List Int) : Row (w.alloc (.cells (zs.map (Value.int .i64)).toArray 3)) w.heap.size zs := heap_alloc_new w _

theorem rd_nil (w : World) (B : Nat) (A : Option Addr) : Rd w B A 0 [] := ⟨rfl, by simp, fun h => absurd h (by omega)⟩

theorem lt_of_cell {w : World} {b i : Nat} {v : Value} (h : w.cell? ⟨b, i, none⟩ = some v) : b < w.heap.size := by
  rcases Nat.lt_or_ge b w.heap.size with h' | h'
  · exact h'
  · simp [World.cell?, Array.getElem?_eq_none h'] at h

/-- An argument that came in: its first l cells of c. -/
theorem rd_open {w : World} {x : Addr} {l c : Nat} {zs : List Int} (hl : l ≤ c) (hz : zs.length = c) (hc : ∀ i, i < zs.length → w.cell? (x.add i) = some (.int .i64 (zs.getD i 0)))
    (hw : ∀ n ∈ zs, (Lit.int .i64 n).wf = true) : Rd w w.heap.size (some x) l (zs.take l) := by
  refine ⟨by rw [List.length_take]; omega, fun z h => hw z (List.mem_of_mem_take h), fun h0 => ?_⟩
  have h1 := hc 0 (by omega)
  obtain ⟨b, off, spot⟩ := x
  have hspot : spot = none := by simpa [Addr.add] using World.cell?_spot h1
  subst hspot
  have e : ∀ i, (⟨b, off, none⟩ : Addr).add i = ⟨b, off + i, none⟩ := by
    intro i
    unfold Addr.add
    by_cases h0 : i = 0 <;> simp [h0]
  refine ⟨b, off, rfl, ?_, fun i hi => ?_⟩
  · rw [e] at h1
    exact lt_of_cell h1
  · have h2 := hc i (by omega)
    rw [e] at h2
    rw [h2]
    simp [List.getD_eq_getElem?_getD, hi]

theorem hid {p : Prop} (h : p) : Hid p := h
theorem belowDrewN {B : Nat} {a w : World} (h : Below B a w) (k : Nat) : Below B a (w.drewN k) := ⟨h.os, h.tape, h.output, h.size, h.block⟩

end Go.Proofs.Ytmicdinibeddmaa
