/-
  Append of a list that reads as ints onto a list of the call's own: the law at the walk and at a step of a region that draws its order. For lists of at most 1000.
-/
import Derived.Test.YtmicdinibeddmaaRtsLive
import Derived.Deep.RegionLaw
namespace Go.Proofs.Ytmicdinibeddmaa
open Go.RowKit

/-- The slice value v of n elements owns the ints ys, in a block from base on. -/
def Own (w : World) (base : Nat) (v : Value) (n : Nat) (ys : List Int) : Prop := w.ownsRow base 3 1 v n (ys.map (Value.int .i64))

theorem Try.info3b : (Try.prog.info? 3).map (fun i => (i.zero, i.size, i.bytes)) = some (some (.int .i64 0), 1, 8) := by kernel_rfl

theorem Own.new (w : World) : Own (w.alloc (.cells #[] 3)) w.heap.size (.slice (some ⟨w.heap.size, 0, none⟩) 0 0) 0 [] :=
  World.ownsRow_lit w #[] 0 (Nat.le_refl _) (Nat.zero_le _) rfl
theorem Own.alloc {w : World} {base : Nat} {v : Value} {n : Nat} {ys : List Int} (h : Own w base v n ys) (o : Obj) : Own (w.alloc o) base v n ys := World.ownsRow.alloc h o
theorem Own.drewN {w : World} {base : Nat} {v : Value} {n : Nat} {ys : List Int} (h : Own w base v n ys) (k : Nat) : Own (w.drewN k) base v n ys := h
theorem Own.shape {w : World} {base : Nat} {v : Value} {n : Nat} {ys : List Int} (h : Own w base v n ys) : ∃ A c, v = .slice A n c := by
  rcases h.2 with ⟨rfl, rfl⟩ | ⟨g, cap, _, rfl, _⟩
  · exact ⟨none, 0, rfl⟩
  · exact ⟨_, cap, rfl⟩
theorem Own.lt {w : World} {base : Nat} {v : Value} {n : Nat} {ys : List Int} (h : Own w base v n ys) : ∀ k, v.ownBlock = some k → base ≤ k := fun k hk => (World.ownsRow.lt h k hk).1
theorem Own.rd {w : World} {base : Nat} {A : Option Addr} {c n : Nat} {ys : List Int} (h : Own w base (.slice A n c) n ys) (hw : ∀ z ∈ ys, (Lit.int .i64 z).wf = true) : Rd w w.heap.size A n ys := by
  have hl : ys.length = n := by
    have := h.1
    simpa using this
  refine ⟨hl, hw, fun hn => ?_⟩
  rcases h.2 with ⟨_, h0⟩ | ⟨g, cap, cur, hv, _, hg, _⟩
  · omega
  · simp only [Value.slice.injEq, true_and] at hv
    obtain ⟨rfl, rfl⟩ := hv
    refine ⟨g, 0, rfl, lt_of_heap hg, fun i hi => ?_⟩
    have e := World.ownsRow.cellAt h i (by omega)
    rw [Nat.zero_add, e]
    simp [List.getD_eq_getElem?_getD, show i < ys.length by omega]

theorem append_none (ty : TypeId) (v : Value) (n c : Nat) (base : Nat) (ys : List Int) (w : World) (h : Own w base v n ys) : (Builtin.append_ #[36, 36] ty #[v, .slice none 0 c]).run Try.prog w = .ok v w := by
  obtain ⟨i, hi, _, _, _⟩ := info_parts Try.info3b
  rcases h.2 with ⟨rfl, rfl⟩ | ⟨g, cap, cur, rfl, _, _, hnc, _⟩
  · simp [Builtin.append_, run_underlying Try.underlying36, sizeOf, typeInfo, hi, Builtin.lenOf, Builtin.firstCells]
  · simp [Builtin.append_, run_underlying Try.underlying36, sizeOf, typeInfo, hi, Builtin.lenOf, Builtin.firstCells, hnc, storeCells]

theorem rd_cells {w : World} {B : Nat} {ad : Addr} {m : Nat} {zs : List Int} (hr : Rd w B (some ad) m zs) : ∀ j u, (zs.map (Value.int .i64))[j]? = some u → w.cell? (ad.add j) = some u := by
  intro j u hj
  have hjl : j < zs.length := by
    have := (List.getElem?_eq_some_iff.1 hj).1
    simpa using this
  obtain ⟨hl, _, hx⟩ := hr
  obtain ⟨b, off, e, _, hc⟩ := hx (by omega)
  injection e with e
  subst e
  have hv : u = .int .i64 (zs.getD j 0) := by
    simp [hjl] at hj
    simp [List.getD_eq_getElem?_getD, hjl, hj]
  have e2 : (⟨b, off, none⟩ : Addr).add j = ⟨b, off + j, none⟩ := by
    unfold Addr.add
    by_cases h0 : j = 0
    · simp [h0]
    · simp [h0]
  rw [e2, hc j (by omega), hv]
theorem oneCells2 (zs : List Int) : ∀ v ∈ zs.map (Value.int .i64), v.oneCell' = true := by
  intro v hv
  obtain ⟨z, _, rfl⟩ := List.mem_map.1 hv
  rfl

theorem append_run (ty : TypeId) (v : Value) (n : Nat) (base : Nat) (ys : List Int) (w : World) (hown : Own w base v n ys) (A : Option Addr) (m c B : Nat) (zs : List Int) (hr : Rd w B A m zs)
    (N : Nat) (hN : N = n + m) (hle : N ≤ 1000) (hbase : base ≤ w.heap.size) :
    ∃ A' c' w', (Builtin.append_ #[36, 36] ty #[v, .slice A m c]).run Try.prog w = .ok (.slice A' N c') w' ∧ Own w' base (.slice A' N c') N (ys ++ zs) ∧ w.grownBy w' v.ownBlock := by
  subst hN
  rcases A with _ | ad
  · have hm : m = 0 := by
      rcases Nat.eq_zero_or_pos m with h0 | h0
      · exact h0
      · obtain ⟨b, off, e, _⟩ := hr.2.2 h0
        cases e
    subst hm
    have hz : zs = [] := List.eq_nil_of_length_eq_zero hr.1
    subst hz
    obtain ⟨A', c', rfl⟩ := hown.shape
    refine ⟨A', c', w, append_none ty _ n c base ys w hown, ?_, World.grownBy.refl w _⟩
    rw [List.append_nil]
    exact hown
  · obtain ⟨i, hi, hz, hs, hb⟩ := info_parts Try.info3b
    obtain ⟨v', w', h1, h2, h3, _⟩ := run_append_own (P := Try.prog) w base 36 ty 3 i (.int .i64 0) 1 8 Try.underlying36 hi hz hs hb rfl (by omega) v n (ys.map (Value.int .i64)) hown ad m c (zs.map (Value.int .i64)) (by have := hr.1; simp; omega) (rd_cells hr) (oneCells2 zs) (by unfold maxLen; omega) (by omega) hbase
    have h4 : Own w' base v' (n + m) (ys ++ zs) := by
      unfold Own
      rw [List.map_append]
      exact h2
    obtain ⟨A', c', rfl⟩ := h4.shape
    exact ⟨A', c', w', h1, h4, h3⟩

theorem wpList_app {ops : Array Oper} {rest : List Oper} {o : Oper} {a : Act} {Q : Exit → Act → World → Prop} (w : World) (hgd : o.guard = none) (s x : Operand)
    (ho : o.op = .call { callee := .builtin .append, args := #[s, x], argTypes := #[36, 36] })
    (base : Nat) (v : Value) (n : Nat) (ys : List Int) (hs : a.eval s = v) (hown : Own w base v n ys) (A : Option Addr) (m c B : Nat) (zs : List Int) (hx : a.eval x = .slice A m c) (hr : Rd w B A m zs)
    (N : Nat) (hN : N = n + m) (hle : N ≤ 1000) (hbase : base ≤ w.heap.size)
    (h : ∀ A' c' w', Own w' base (.slice A' N c') N (ys ++ zs) → w.grownBy w' v.ownBlock → wpList Try.prog ops Q rest (a.put o.dst (.slice A' N c')) w') : wpList Try.prog ops Q (o :: rest) a w := by
  refine wpList_plain hgd fun K hK => ?_
  obtain ⟨A', c', w', hrun, h2, h3⟩ := append_run o.type v n base ys w hown A m c B zs hr N hN hle hbase
  unfold Oper.wp
  simp [execOp, ho, resolve, invoke, builtin, hs, hx, hrun, Result.andThen]
  exact hK _ _ (h A' c' w' h2 h3)

theorem step_app {ops : Array Oper} {o : Oper} {a : Act} {w : World} {K : Act → World → Prop} {Q : Exit → Act → World → Prop} {E : Prop} (hgd : o.guard = none) (s x : Operand)
    (ho : o.op = .call { callee := .builtin .append, args := #[s, x], argTypes := #[36, 36] })
    (base : Nat) (v : Value) (n : Nat) (ys : List Int) (hs : a.eval s = v) (hown : Own w base v n ys) (A : Option Addr) (m c B : Nat) (zs : List Int) (hx : a.eval x = .slice A m c) (hr : Rd w B A m zs)
    (N : Nat) (hN : N = n + m) (hle : N ≤ 1000) (hbase : base ≤ w.heap.size)
    (h : ∀ A' c' w', Own w' base (.slice A' N c') N (ys ++ zs) → w.grownBy w' v.ownBlock → K (a.put o.dst (.slice A' N c')) w') :
    if Region.wanted o (yielded ops a.tmps) = true then Oper.wp Try.prog o a w K Q else E := by
  have hw : Region.wanted o (yielded ops a.tmps) = true := by simp [Region.wanted, hgd]
  rw [if_pos hw]
  obtain ⟨A', c', w', hrun, h2, h3⟩ := append_run o.type v n base ys w hown A m c B zs hr N hN hle hbase
  unfold Oper.wp
  simp [execOp, ho, resolve, invoke, builtin, hs, hx, hrun, Result.andThen]
  exact h A' c' w' h2 h3

theorem Own.grown {w w' w0 : World} {B : Nat} {v : Value} {n : Nat} {ys : List Int} (h : Own w B v n ys) (hg : w.grownBy w' v.ownBlock) (hb : Below B w0 w) (hB : B ≤ w.heap.size) : Below B w0 w' :=
  hb.grown hg hB h.lt
end Go.Proofs.Ytmicdinibeddmaa
