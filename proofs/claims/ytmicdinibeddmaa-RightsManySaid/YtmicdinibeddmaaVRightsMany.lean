/-
  The walk of RightsMany: it returns true at every list and every index, and writes nothing that was there.
-/
import Derived.Test.YtmicdinibeddmaaApp
import Derived.Deep.DeepCutAuto
import Derived.Deep.RegionHeld3
namespace Go.Proofs.Ytmicdinibeddmaa
open Go.RowKit

theorem many_out (A : Option Addr) (n c : Nat) (k : Int) (w : World) (h : 100 < n ∨ k < 0 ∨ (n : Int) ≤ k) :
    Calls Try.prog 5 #[.slice A n c, .int .i64 k] w fun e w' => e = .returned (.bool true) ∧ Below w.heap.size w w' := by
  by_cases h1 : (100 : Int) < (n : Int)
  · go_enter Try.func5, Try.ntmps5
    go_wp2_with (first | (go_at_call 23; refine (live2_any _).mono ?_; rintro e w3 ⟨rfl, hb3⟩))
    go_ret
    exact ⟨rfl, hb3⟩
  · by_cases h2 : k < 0
    · go_enter Try.func5, Try.ntmps5
      go_wp2_with (first | (go_at_call 23; refine (live2_any _).mono ?_; rintro e w3 ⟨rfl, hb3⟩))
      go_ret
      exact ⟨rfl, hb3⟩
    · have h3 : (n : Int) ≤ k := by omega
      go_enter Try.func5, Try.ntmps5
      go_wp2_with (first | (go_at_call 23; refine (live2_any _).mono ?_; rintro e w3 ⟨rfl, hb3⟩))
      go_ret
      exact ⟨rfl, hb3⟩

theorem rd_drop {w : World} {B b off n k : Nat} {zs : List Int} (h : Rd w B (some ⟨b, off, none⟩) n zs) (hk : k < n) : Rd w B (some ⟨b, off + k, none⟩) (n - k) (zs.drop k) := by
  have hl := h.len
  refine ⟨by rw [List.length_drop, hl], fun z hz => h.2.1 z (List.mem_of_mem_drop hz), fun _ => ?_⟩
  obtain ⟨b', off', e, hb, hc⟩ := h.2.2 (by omega)
  simp only [Option.some.injEq, Addr.mk.injEq, and_true] at e
  obtain ⟨rfl, rfl⟩ := e
  refine ⟨b, off + k, rfl, hb, fun i hi => ?_⟩
  rw [Nat.add_assoc, hc (k + i) (by omega)]
  simp [List.getD_eq_getElem?_getD]
theorem rd_take {w : World} {B b off n k : Nat} {zs : List Int} (h : Rd w B (some ⟨b, off, none⟩) n zs) (hk : k < n) : Rd w B (some ⟨b, off, none⟩) k (zs.take k) := by
  have hl := h.len
  refine ⟨by rw [List.length_take]; omega, fun z hz => h.2.1 z (List.mem_of_mem_take hz), fun _ => ?_⟩
  obtain ⟨b', off', e, hb, hc⟩ := h.2.2 (by omega)
  simp only [Option.some.injEq, Addr.mk.injEq, and_true] at e
  obtain ⟨rfl, rfl⟩ := e
  refine ⟨b, off, rfl, hb, fun i hi => ?_⟩
  rw [hc i (by omega)]
  simp [List.getD_eq_getElem?_getD, hi]

theorem own_drew {w : World} {base : Nat} {v : Value} {n : Nat} {ys : List Int} (h : Own w base v n ys) : Own w.drew base v n ys := h
theorem rd_drew {w : World} {B : Nat} {A : Option Addr} {n : Nat} {zs : List Int} (h : Rd w B A n zs) : Rd w.drew B A n zs := h.keep fun _ _ => rfl

theorem many_mem {zs : List Int} {z : Int} {k : Nat} (hz : z = zs.getD k 0) (hk : k < zs.length) (x : Int) : x ∈ (zs.drop k ++ zs.take k) ++ [z] ↔ x ∈ zs := by
  have hzm : z ∈ zs := by
    have e : zs.getD k 0 = zs[k] := by simp [List.getD_eq_getElem?_getD, hk]
    rw [hz, e]
    exact List.getElem_mem hk
  constructor
  · intro h
    rcases List.mem_append.1 h with h | h
    · rcases List.mem_append.1 h with h | h
      · exact List.mem_of_mem_drop h
      · exact List.mem_of_mem_take h
    · rw [List.mem_singleton] at h
      rw [h]
      exact hzm
  · intro h
    refine List.mem_append.2 (.inl (List.mem_append.2 ?_))
    rw [← List.take_append_drop k zs] at h
    exact (List.mem_append.1 h).symm
theorem many_same {zs U : List Int} (h : ∀ x, x ∈ U ↔ x ∈ zs) : meetV U = meetV zs ∧ joinV U = joinV zs ∧ foldE U = foldE zs := by
  have ha : ∀ p : Int → Bool, U.all p = zs.all p := by
    intro p
    rw [Bool.eq_iff_iff, List.all_eq_true, List.all_eq_true]
    exact ⟨fun g x hx => g x ((h x).2 hx), fun g x hx => g x ((h x).1 hx)⟩
  have hy : ∀ p : Int → Bool, U.any p = zs.any p := by
    intro p
    rw [Bool.eq_iff_iff, List.any_eq_true, List.any_eq_true]
    exact ⟨fun ⟨x, hx, g⟩ => ⟨x, (h x).1 hx, g⟩, fun ⟨x, hx, g⟩ => ⟨x, (h x).2 hx, g⟩⟩
  have hall : allR U = allR zs := ha isR
  by_cases g : allR zs = true
  · have g2 : allR U = true := by rw [hall]; exact g
    obtain ⟨a1, a2⟩ := meetV_all g
    obtain ⟨b1, b2⟩ := meetV_all g2
    obtain ⟨c1, c2⟩ := joinV_all g
    obtain ⟨d1, d2⟩ := joinV_all g2
    refine ⟨has_ext b1 a1 fun k hk => ?_, has_ext d1 c1 fun k hk => ?_, by rw [good_fold g, good_fold g2]⟩
    · rw [b2 k hk, a2 k hk, allP_eq, allP_eq, ha]
    · rw [d2 k hk, c2 k hk, anyP_eq, anyP_eq, hy]
  · have g2 : ¬ allR U = true := by rw [hall]; exact g
    unfold meetV joinV
    rw [(bad_fold andI 15 g).1, (bad_fold andI 15 g2).1, (bad_fold orI 0 g).1, (bad_fold orI 0 g2).1, (bad_fold andI 15 g).2, (bad_fold andI 15 g2).2]
    exact ⟨rfl, rfl, rfl⟩

theorem own_new_at (w : World) (base g : Nat) (hb : base ≤ w.heap.size) (hg : w.heap.size = g) : Own (w.alloc (.cells #[] 3)) base (.slice (some ⟨g, 0, none⟩) 0 0) 0 [] := by
  subst hg
  exact World.ownsRow_lit w #[] 0 hb (Nat.zero_le _) rfl
theorem row_grown {w w' : World} {g : Nat} {zs : List Int} {row : Option Nat} (h : Row w g zs) (hg : w.grownBy w' row) (hne : some g ≠ row) : Row w' g zs := (hg.block g h.lt hne).trans h
theorem row_drew {w : World} {g : Nat} {zs : List Int} (h : Row w g zs) : Row w.drew g zs := h
theorem row_alloc {w : World} {g : Nat} {zs : List Int} (h : Row w g zs) (o : Obj) : Row (w.alloc o) g zs := (Below.heap_alloc w o g h.lt).trans h
theorem one_wf {z : Int} (h : (Lit.int .i64 z).wf = true) : ∀ x ∈ [z], (Lit.int .i64 x).wf = true := by
  intro x hx
  simp at hx
  rw [hx]
  exact h

set_option maxRecDepth 100000 in
set_option maxHeartbeats 2000000 in
theorem many_in (b off n c k : Nat) (zs : List Int) (w : World) (hr : Rd w w.heap.size (some ⟨b, off, none⟩) n zs) (hn : n ≤ 100) (hk : k < n) (hc : n ≤ c) :
    Calls Try.prog 5 #[.slice (some ⟨b, off, none⟩) n c, .int .i64 k] w fun e w' => e = .returned (.bool true) ∧ Below w.heap.size w w' := by
  have h1 : (n : Int) ≤ 100 := by omega
  have h2 : (0 : Int) ≤ (k : Int) := by omega
  have h3 : (k : Int) < (n : Int) := by omega
  have h4 : (n : Int) ≤ (c : Int) := by omega
  have h5 : k ≤ n := by omega
  have h6 : k ≤ c := by omega
  have h7 : ¬ c = k := by omega
  have HR := hid hr
  have o0 := hid (own_drew (Own.new w))
  have d0 := hid (rd_drew ((rd_drop hr hk).below (Below.alloc (Below.refl _ _) (Nat.le_refl _) (.cells #[] 3))))
  have b0 := hid (Below.drew (Below.alloc (Below.refl w.heap.size w) (Nat.le_refl _) (.cells #[] 3)))
  have z0 : Hid (w.heap.size ≤ (w.alloc (.cells #[] 3)).drew.heap.size) := b0.out.size
  clear hr
  go_enter Try.func5, Try.ntmps5
  go_upto_region 3 with fail
  go_cut [5] (fun s5 wx => ∃ A1 c1, s5 = .slice A1 n c1 ∧ Own wx w.heap.size (.slice A1 n c1) n (zs.drop k ++ zs.take k) ∧ Below w.heap.size w wx)
  case first =>
    go_region_law (first
      | (refine step_app rfl (.tmp 33) (.tmp 36) rfl w.heap.size (.slice (some ⟨w.heap.size, 0, none⟩) 0 0) 0 [] (by simp [Act.eval]) o0.out (some ⟨b, off + k, none⟩) (n - k) (c - k) w.heap.size (zs.drop k) (by simp [Act.eval]) d0.out (n - k) (by omega) (by omega) z0.out ?_; intro A1 c1 w1 hown1 hgrow1; have b1 := hid (o0.out.grown hgrow1 b0.out z0.out))
      | (refine step_app rfl (.tmp 37) (.tmp 40) rfl w.heap.size (.slice A1 (n - k) c1) (n - k) (zs.drop k) (by simp [Act.eval]) hown1 (some ⟨b, off, none⟩) k c w.heap.size (zs.take k) (by simp [Act.eval]) ((rd_take HR.out hk).below b1.out) n (by omega) (by omega) b1.out.size ?_; intro A2 c2 w2 hown2 hgrow2; have b2 := hid (hown1.grown hgrow2 b1.out b1.out.size)))
    all_goals (go_wp2_with fail; go_meet; exact ⟨A2, c2, rfl, hown2, b2.out⟩)
  case rest =>
    obtain ⟨A1, c1, rfl, ho1, hb1⟩ := hcut
    have hzw := hid (getD_wf HR.out.2.1 (show k < zs.length by have := HR.out.len; omega))
    obtain ⟨b', off', e', hbw, hcc⟩ := HR.out.2.2 (by omega)
    simp only [Option.some.injEq, Addr.mk.injEq, and_true] at e'
    obtain ⟨rfl, rfl⟩ := e'
    obtain ⟨z, hz⟩ : ∃ z, z = zs.getD k 0 := ⟨_, rfl⟩
    rw [← hz] at hzw
    have HC : Hid (w.cell? ⟨b, off + k, none⟩ = some (.int .i64 z)) := by
      show w.cell? ⟨b, off + k, none⟩ = _
      rw [hcc k hk, hz]
    have hcz : wc.cell? ⟨b, off + k, none⟩ = some (.int .i64 z) := (hb1.cell (p := ⟨b, off + k, none⟩) hbw).trans HC.out
    have HZ := hid hz
    have HT : Hid (∀ x ∈ zs.drop k ++ zs.take k, (Lit.int .i64 x).wf = true) := by
      intro x hx
      rcases List.mem_append.1 hx with hx | hx
      · exact HR.out.2.1 x (List.mem_of_mem_drop hx)
      · exact HR.out.2.1 x (List.mem_of_mem_take hx)
    have hr1 := ho1.rd HT.out
    have hs1 := hb1.size
    -- the three worlds in which the first append may stand
    have ba := hid (Below.drew (hb1.alloc hs1 (.cells #[] 3)))
    have oa := hid (own_drew (own_new_at wc w.heap.size wc.heap.size hs1 rfl))
    have ra := hid (rd_drew (hr1.below ((Below.refl _ _).alloc (Nat.le_refl _) (.cells #[] 3))))
    have bb := hid (Below.drew ((hb1.alloc hs1 (.cells #[] 3)).alloc (by simp only [World.size_alloc]; omega) (.cells #[.int .i64 z] 3)))
    have ob := hid (own_drew ((own_new_at wc w.heap.size wc.heap.size hs1 rfl).alloc (.cells #[.int .i64 z] 3)))
    have rb := hid (rd_drew (hr1.below (((Below.refl _ _).alloc (Nat.le_refl _) (.cells #[] 3)).alloc (by simp only [World.size_alloc]; omega) (.cells #[.int .i64 z] 3))))
    have eb : Hid (Row ((wc.alloc (.cells #[] 3)).alloc (.cells #[.int .i64 z] 3)).drew (wc.heap.size + 1) [z]) := row_drew (row_at (wc.alloc (.cells #[] 3)) (wc.heap.size + 1) (by simp) [z])
    have bd := hid (Below.drew ((hb1.alloc hs1 (.cells #[.int .i64 z] 3)).alloc (by simp only [World.size_alloc]; omega) (.cells #[] 3)))
    have od := hid (own_drew (own_new_at (wc.alloc (.cells #[.int .i64 z] 3)) w.heap.size (wc.heap.size + 1) (by simp only [World.size_alloc]; omega) (by simp)))
    have rd := hid (rd_drew (hr1.below (((Below.refl _ _).alloc (Nat.le_refl _) (.cells #[.int .i64 z] 3)).alloc (by simp only [World.size_alloc]; omega) (.cells #[] 3))))
    have ed : Hid (Row ((wc.alloc (.cells #[.int .i64 z] 3)).alloc (.cells #[] 3)).drew wc.heap.size [z]) := row_drew (row_alloc (Row.new wc [z]) _)
    have HB := hid hb1
    have HO := hid ho1
    clear hcc hz ho1 hb1 hr1 hs1
    go_upto_region 4 with fail
    go_cut [6] (fun s6 wx => ∃ A2 c2, s6 = .slice A2 (n + 1) c2 ∧ Own wx w.heap.size (.slice A2 (n + 1) c2) (n + 1) ((zs.drop k ++ zs.take k) ++ [z]) ∧ Below w.heap.size w wx)
    case first =>
      go_region_held3 (fun w' => w'.cell? ⟨b, off + k, none⟩ = some (.int .i64 z)) (go_keep) (first
        | (refine step_app rfl (.tmp 42) (.tmp 43) rfl w.heap.size (.slice (some ⟨wc.heap.size, 0, none⟩) 0 0) 0 [] (by simp [Act.eval]) oa.out A1 n c1 wc.heap.size (zs.drop k ++ zs.take k) (by simp [Act.eval]) ra.out n (by omega) (by omega) ba.out.size ?_; intro A3 c3 w3 hown3 hgrow3; have b3 := hid (oa.out.grown hgrow3 ba.out ba.out.size); have hS := (b3.out.cell (p := ⟨b, off + k, none⟩) hbw).trans HC.out; clear hgrow3)
        | (refine step_app rfl (.tmp 42) (.tmp 43) rfl w.heap.size (.slice (some ⟨wc.heap.size, 0, none⟩) 0 0) 0 [] (by simp [Act.eval]) ob.out A1 n c1 wc.heap.size (zs.drop k ++ zs.take k) (by simp [Act.eval]) rb.out n (by omega) (by omega) bb.out.size ?_; intro A3 c3 w3 hown3 hgrow3; have b3 := hid (ob.out.grown hgrow3 bb.out bb.out.size); have hS := (b3.out.cell (p := ⟨b, off + k, none⟩) hbw).trans HC.out; have e3 := hid (row_grown eb.out hgrow3 (by simp [Value.ownBlock])); clear hgrow3)
        | (refine step_app rfl (.tmp 42) (.tmp 43) rfl w.heap.size (.slice (some ⟨wc.heap.size + 1, 0, none⟩) 0 0) 0 [] (by simp [Act.eval]) od.out A1 n c1 wc.heap.size (zs.drop k ++ zs.take k) (by simp [Act.eval]) rd.out n (by omega) (by omega) bd.out.size ?_; intro A3 c3 w3 hown3 hgrow3; have b3 := hid (od.out.grown hgrow3 bd.out bd.out.size); have hS := (b3.out.cell (p := ⟨b, off + k, none⟩) hbw).trans HC.out; have e3 := hid (row_grown ed.out hgrow3 (by simp [Value.ownBlock])); clear hgrow3)
        | (refine step_app rfl (.tmp 44) (.tmp 49) rfl w.heap.size (.slice A3 n c3) n (zs.drop k ++ zs.take k) (by simp [Act.eval]) (hown3.alloc _) (some ⟨w3.heap.size, 0, none⟩) 1 1 (w3.heap.size + 1) [z] (by simp [Act.eval]) ((Row.new w3 [z]).rd (Nat.lt_succ_self _) (one_wf hzw.out)) (n + 1) (by omega) (by omega) (by have := b3.out.size; simp only [World.size_alloc]; omega) ?_; intro A4 c4 w4 hown4 hgrow4; have b4 := hid ((hown3.alloc _).grown hgrow4 (b3.out.alloc b3.out.size _) (by have := b3.out.size; simp only [World.size_alloc]; omega)); have hS4 := (b4.out.cell (p := ⟨b, off + k, none⟩) hbw).trans HC.out)
        | (refine step_app rfl (.tmp 44) (.tmp 49) rfl w.heap.size (.slice A3 n c3) n (zs.drop k ++ zs.take k) (by simp [Act.eval]) hown3 (some ⟨_, 0, none⟩) 1 1 w3.heap.size [z] (by simp [Act.eval]) (e3.out.rd e3.out.lt (one_wf hzw.out)) (n + 1) (by omega) (by omega) b3.out.size ?_; intro A4 c4 w4 hown4 hgrow4; have b4 := hid (hown3.grown hgrow4 b3.out b3.out.size); have hS4 := (b4.out.cell (p := ⟨b, off + k, none⟩) hbw).trans HC.out))
      all_goals (go_wp2_with fail; go_meet; exact ⟨A4, c4, rfl, hown4, b4.out⟩)
    case rest =>
      obtain ⟨A2, c2, rfl, ho2, hb2⟩ := hcut
      have hwU : ∀ x ∈ (zs.drop k ++ zs.take k) ++ [z], (Lit.int .i64 x).wf = true := by
        intro x hx
        rcases List.mem_append.1 hx with hx | hx
        · exact HT.out x hx
        · exact one_wf hzw.out x hx
      have hU := ho2.rd hwU
      have hmem : ∀ x, x ∈ (zs.drop k ++ zs.take k) ++ [z] ↔ x ∈ zs := many_mem HZ.out (by have := HR.out.len; omega)
      obtain ⟨U, hUU⟩ : ∃ U, U = (zs.drop k ++ zs.take k) ++ [z] := ⟨_, rfl⟩
      rw [← hUU] at hU hmem
      obtain ⟨m1, m2, m3⟩ := many_same hmem
      have m4 : meetV [] = 15 := by decide
      have m5 : joinV [] = 0 := by decide
      have m6 : foldE [] = 0 := by decide
      have hRd := HR.out.below hb2
      have HB2 := hid hb2
      clear ho2 hwU hmem hUU hb2 HO HB ba oa ra bb ob rb eb bd od rd ed hcz
      go_wp2_with fail
      refine (meet_any (some ⟨b, off, none⟩) n c _ zs _ hRd (by omega)).mono ?_
      rintro e w' ⟨rfl, rfl⟩
      go_wp2_with fail
      refine (meet_any A2 (n + 1) c2 _ U _ hU (by omega)).mono ?_
      rintro e w' ⟨rfl, rfl⟩
      go_wp2_with fail
      refine (join_any (some ⟨b, off, none⟩) n c _ zs _ hRd (by omega)).mono ?_
      rintro e w' ⟨rfl, rfl⟩
      go_wp2_with fail
      refine (join_any A2 (n + 1) c2 _ U _ hU (by omega)).mono ?_
      rintro e w' ⟨rfl, rfl⟩
      go_wp2_with fail
      refine (meet_any none 0 0 0 [] _ (rd_nil _ _ _) (by omega)).mono ?_
      rintro e w' ⟨rfl, rfl⟩
      go_wp2_with fail
      refine (join_any none 0 0 0 [] _ (rd_nil _ _ _) (by omega)).mono ?_
      rintro e w' ⟨rfl, rfl⟩
      go_wp2_with (first
        | (go_at_call 26; refine (num2_any _ _).mono ?_; rintro e w' ⟨rfl, rfl⟩)
        | (go_at_call 23; refine (live2_any _).mono ?_; rintro e w9 ⟨rfl, hb9⟩))
      go_ret
      exact ⟨rfl, HB2.out.trans (hb9.mono HB2.out.size)⟩

theorem vRightsMany_walk (A : Option Addr) (n c : Nat) (zs : List Int) (k : Int) (w : World) (hr : Rd w w.heap.size A n zs) (hc : n ≤ c) (_w1 : (Lit.int .i64 k).wf = true) :
    Calls Try.prog 5 #[.slice A n c, .int .i64 k] w fun e w' => e = .returned (.bool true) ∧ Below w.heap.size w w' := by
  by_cases h : 100 < n ∨ k < 0 ∨ (n : Int) ≤ k
  · exact many_out A n c k w h
  · obtain ⟨j, rfl⟩ := Int.eq_ofNat_of_zero_le (show 0 ≤ k by omega)
    obtain ⟨b, off, rfl, _, _⟩ := hr.2.2 (by omega)
    exact many_in b off n c j zs w hr (by omega) (by omega) hc
end Go.Proofs.Ytmicdinibeddmaa
