/- The opened web; its edges with a property; a column. -/
import Derived.Test.YtlglfcdobbocnaaGreatXi
set_option maxRecDepth 100000
namespace Go.Proofs.YtlglfcdobbocnaaGreat
open Go Go.Proofs Go.RowKit
attribute [local go_sem] Oper.semAt_some
/-- The opened web in memory. -/
structure WebM (W : World) (g : Nat) (ap : Option Addr) (np cp : Nat) (ae : Option Addr) (ne ce : Nat) (mf : Int) (P : List Pt) (E : List (Nat × Nat)) (Ed : List Five) (face : List Int) : Prop where
  web : WebC W g P E
  g0 : W.cell? ⟨g, 0, none⟩ = some (.slice ap np cp)
  g1 : W.cell? ⟨g, 1, none⟩ = some (.slice ae ne ce)
  g2 : W.cell? ⟨g, 2, none⟩ = some (.int .i64 mf)
  d : MapD W ap ae P E Ed np ne
  face : ∃ af cf, W.cell? ⟨g, 5, none⟩ = some (.slice af face.length cf) ∧ Ints W af face
  ends : Ends P E
  ok : ∀ x ∈ P, okB x = true
section
variable {W X : World} {g : Nat} {ap : Option Addr} {np cp : Nat} {ae : Option Addr} {ne ce : Nat} {mf : Int} {P : List Pt} {E : List (Nat × Nat)} {Ed : List Five} {face : List Int}
theorem WebM.kept (h : WebM W g ap np cp ae ne ce mf P E Ed face) (hk : Kept W X) : WebM X g ap np cp ae ne ce mf P E Ed face := by
  obtain ⟨af, cf, h1, h2⟩ := h.face
  exact ⟨h.web.kept hk, hk.cell h.g0, hk.cell h.g1, hk.cell h.g2, h.d.kept hk, ⟨af, cf, hk.cell h1, h2.kept hk⟩, h.ends, h.ok⟩
theorem WebM.cnt (h : WebM W g ap np cp ae ne ce mf P E Ed face) : E.length = ne := by rw [← h.d.are.len, h.d.he]
theorem WebM.okS (h : WebM W g ap np cp ae ne ce mf P E Ed face) {i : Nat} (hi : i < ne) : okB (eS P E i).1 = true ∧ okB (eS P E i).2 = true := by
  have := h.ends.edge (k := i) (by rw [h.cnt]; exact hi)
  exact ⟨h.ok _ (getD_mem (0, 0) this.1), h.ok _ (getD_mem (0, 0) this.2)⟩
end
/-- The closure that compares the heights of edges. -/
def heightD (P : List Pt) (E : List (Nat × Nat)) (x : Int) (a b : Int) : Int := heightF (eS P E a.toNat) (eS P E b.toNat) x
set_option maxHeartbeats 2000000 in
theorem column2_any (g cw cx : Nat) (ap : Option Addr) (np cp : Nat) (ae : Option Addr) (ne ce : Nat) (mf : Int) (P : List Pt) (E : List (Nat × Nat)) (Ed : List Five) (face : List Int) (x : Int) (a b : Nat) (X : World) (h : WebM X g ap np cp ae ne ce mf P E Ed face) (h1 : X.cell? ⟨cw, 0, none⟩ = some (.pointer (some ⟨g, 0, none⟩))) (h2 : X.cell? ⟨cx, 0, none⟩ = some (.int .i64 x)) (ha : a < ne) (hb : b < ne) (hx : 0 ≤ x ∧ x ≤ 10000) :
    Calls Tryz.prog 89 #[.int .i64 a, .int .i64 b, .pointer (some ⟨cw, 0, none⟩), .pointer (some ⟨cx, 0, none⟩)] X (Gives (.int .i64 (heightD P E x a b)) X) := by
  have H := Lib.hid h
  have H1 := Lib.hid h1
  have H2 := Lib.hid h2
  have HR : Hid (heightF (eS P E a) (eS P E b) x = heightD P E x a b) := Lib.hid (by unfold heightD; simp)
  have HA := Lib.hid (h.okS ha)
  have HB := Lib.hid (h.okS hb)
  clear h h1 h2
  go_enter Tryz.func89, Tryz.ntmps89
  go_wp2
  refine region_class (fun Z => Kept X Z) 14 (by kernel_rfl) (by kernel_rfl) (Kept.refl _).drew ?_
  simp only [List.take_succ_cons, List.take_zero, List.drop_succ_cons, List.drop_zero]
  refine wpQuiet_yield (.pointer (some ⟨g, 0, none⟩)) (by rfl) (fun Z hZ => ?_) ?_
  · have c0 := hZ.cell H1.out
    have hl := lt_of_cell c0
    go_simp
  simp only [Act.put, List.setIfInBounds_toArray, List.set_cons_zero, List.set_cons_succ]
  refine wpQuiet_yield (.pointer (some ⟨g, 0, none⟩)) (by rfl) (fun Z hZ => ?_) ?_
  · go_simp
  simp only [Act.put, List.setIfInBounds_toArray, List.set_cons_zero, List.set_cons_succ]
  refine wpQuiet_yield (.pointer (some ⟨g, 0, none⟩)) (by rfl) (fun Z hZ => ?_) ?_
  · go_simp
  simp only [Act.put, List.setIfInBounds_toArray, List.set_cons_zero, List.set_cons_succ]
  refine wpQuiet_yield (mapV ap np cp ae ne ce mf) (by rfl) (fun Z hZ => ?_) ?_
  · have c0 := hZ.cell H.out.g0
    have c1 := hZ.cell H.out.g1
    have c2 := hZ.cell H.out.g2
    have hl := lt_of_cell c0
    go_simp
  simp only [Act.put, List.setIfInBounds_toArray, List.set_cons_zero, List.set_cons_succ]
  refine wpQuiet_yield (.int .i64 a) (by rfl) (fun Z hZ => ?_) ?_
  · go_simp
  simp only [Act.put, List.setIfInBounds_toArray, List.set_cons_zero, List.set_cons_succ]
  refine wpQuiet_yield (sgV (eS P E a)) (by rfl) (fun Z hZ => ?_) ?_
  · go_simp
    have hF := seg_any P E Ed ap np cp ae ne ce mf a Z (H.out.d.kept hZ) H.out.ends ha
    exact hF.mono fun e Z' h => ⟨h.1, hZ.trans h.2⟩
  simp only [Act.put, List.setIfInBounds_toArray, List.set_cons_zero, List.set_cons_succ]
  refine wpQuiet_yield (.pointer (some ⟨g, 0, none⟩)) (by rfl) (fun Z hZ => ?_) ?_
  · have c0 := hZ.cell H1.out
    have hl := lt_of_cell c0
    go_simp
  simp only [Act.put, List.setIfInBounds_toArray, List.set_cons_zero, List.set_cons_succ]
  refine wpQuiet_yield (.pointer (some ⟨g, 0, none⟩)) (by rfl) (fun Z hZ => ?_) ?_
  · go_simp
  simp only [Act.put, List.setIfInBounds_toArray, List.set_cons_zero, List.set_cons_succ]
  refine wpQuiet_yield (.pointer (some ⟨g, 0, none⟩)) (by rfl) (fun Z hZ => ?_) ?_
  · go_simp
  simp only [Act.put, List.setIfInBounds_toArray, List.set_cons_zero, List.set_cons_succ]
  refine wpQuiet_yield (mapV ap np cp ae ne ce mf) (by rfl) (fun Z hZ => ?_) ?_
  · have c0 := hZ.cell H.out.g0
    have c1 := hZ.cell H.out.g1
    have c2 := hZ.cell H.out.g2
    have hl := lt_of_cell c0
    go_simp
  simp only [Act.put, List.setIfInBounds_toArray, List.set_cons_zero, List.set_cons_succ]
  refine wpQuiet_yield (.int .i64 b) (by rfl) (fun Z hZ => ?_) ?_
  · go_simp
  simp only [Act.put, List.setIfInBounds_toArray, List.set_cons_zero, List.set_cons_succ]
  refine wpQuiet_yield (sgV (eS P E b)) (by rfl) (fun Z hZ => ?_) ?_
  · go_simp
    have hF := seg_any P E Ed ap np cp ae ne ce mf b Z (H.out.d.kept hZ) H.out.ends hb
    exact hF.mono fun e Z' h => ⟨h.1, hZ.trans h.2⟩
  simp only [Act.put, List.setIfInBounds_toArray, List.set_cons_zero, List.set_cons_succ]
  refine wpQuiet_yield (.int .i64 x) (by rfl) (fun Z hZ => ?_) ?_
  · have c0 := hZ.cell H2.out
    have hl := lt_of_cell c0
    go_simp
  simp only [Act.put, List.setIfInBounds_toArray, List.set_cons_zero, List.set_cons_succ]
  refine wpQuiet_yield (.int .i64 (heightF (eS P E a) (eS P E b) x)) (by rfl) (fun Z hZ => ?_) ?_
  · go_simp
    have hF := height_any (eS P E a) (eS P E b) x Z HA.out.1 HA.out.2 HB.out.1 HB.out.2 hx
    exact hF.mono fun e Z' h => ⟨h.1, hZ.trans h.2⟩
  simp only [Act.put, List.setIfInBounds_toArray, List.set_cons_zero, List.set_cons_succ]
  refine wpQuiet_nil ?_
  intro X2 hk
  have HK := Lib.hid hk
  rw [HR.out]
  clear hk
  go_wp2
  go_ret
  exact ⟨rfl, HK.out⟩
abbrev fiveV (x : Five) : Value := .agg #[.int .i64 x.1, .int .i64 x.2.1, .int .i64 x.2.2.1, .int .i64 x.2.2.2.1, .int .i64 x.2.2.2.2]
theorem WebM.five {W : World} {g : Nat} {ap : Option Addr} {np cp : Nat} {ae : Option Addr} {ne ce : Nat} {mf : Int} {P : List Pt} {E : List (Nat × Nat)} {Ed : List Five} {face : List Int} (h : WebM W g ap np cp ae ne ce mf P E Ed face) {i : Nat} (hi : i < ne) : ∃ (a b : Nat) (x3 x4 x5 : Int), Ed.getD i (0, 0, 0, 0, 0) = ((a : Int), (b : Int), x3, x4, x5) ∧ a < np ∧ b < np ∧ eS P E i = (P.getD a (0, 0), P.getD b (0, 0)) := by
  have hid : i < Ed.length := by rw [h.d.he]; exact hi
  have hie : i < E.length := by rw [h.cnt]; exact hi
  have he := h.ends.edge hie
  rw [h.d.hp] at he
  have h1 := h.d.are.a i hid
  have h2 := h.d.are.b i hid
  refine ⟨(E.getD i (0, 0)).1, (E.getD i (0, 0)).2, (Ed.getD i (0, 0, 0, 0, 0)).2.2.1, (Ed.getD i (0, 0, 0, 0, 0)).2.2.2.1, (Ed.getD i (0, 0, 0, 0, 0)).2.2.2.2, ?_, he.1, he.2, rfl⟩
  rw [← h1, ← h2, List.getD_eq_getElem?_getD, List.getElem?_eq_getElem hid]
  rfl
set_option maxHeartbeats 2000000 in
theorem column1_any (g cw cx : Nat) (ap : Option Addr) (np cp : Nat) (ae : Option Addr) (ne ce : Nat) (mf : Int) (P : List Pt) (E : List (Nat × Nat)) (Ed : List Five) (face : List Int) (x : Int) (i : Nat) (X : World) (h : WebM X g ap np cp ae ne ce mf P E Ed face) (h1 : X.cell? ⟨cw, 0, none⟩ = some (.pointer (some ⟨g, 0, none⟩))) (h2 : X.cell? ⟨cx, 0, none⟩ = some (.int .i64 x)) (hi : i < ne) :
    Calls Tryz.prog 88 #[fiveV (Ed.getD i (0, 0, 0, 0, 0)), .pointer (some ⟨cw, 0, none⟩), .pointer (some ⟨cx, 0, none⟩)] X (Gives (.bool (spansB (eS P E i) x)) X) := by
  obtain ⟨a, b, x3, x4, x5, he, ha, hb, hs⟩ := h.five hi
  rw [he, hs]
  unfold spansB
  obtain ⟨b1, off1, c1, p0, p1, -⟩ := h.web.pt (i := a) (by rw [h.d.hp]; exact ha)
  obtain ⟨b2, off2, c2, q0, q1, -⟩ := h.web.pt (i := b) (by rw [h.d.hp]; exact hb)
  rw [p0] at q0
  simp only [Option.some.injEq, Value.slice.injEq, Addr.mk.injEq] at q0
  obtain ⟨⟨rfl, rfl, -⟩, -, rfl⟩ := q0
  rw [h.d.hp] at p0
  generalize P.getD a (0, 0) = pa at p1 ⊢
  generalize P.getD b (0, 0) = pb at q1 ⊢
  simp only []
  obtain ⟨w0, z0, k0, e1, e2, hg1, hb1, hf1, hk2, hb2, hz1⟩ := new_five 87 X ((a : Int), (b : Int), x3, x4, x5)
  obtain ⟨w1, hw1⟩ : ∃ w1, X.alloc (.cells #[.int .i64 a, .int .i64 b, .int .i64 x3, .int .i64 x4, .int .i64 x5] 87) = w1 := ⟨_, rfl⟩
  have hk1 : Kept X w1 := by rw [← hw1]; exact (Kept.refl X).alloc _
  obtain ⟨g1, hgg⟩ : ∃ g1, X.heap.size = g1 := ⟨_, rfl⟩
  have r0 : w1.cell? ⟨g1, 0, none⟩ = some (.int .i64 a) := by rw [← hw1, ← hgg]; simp [go_sem]
  have r1 : w1.cell? ⟨g1, 1, none⟩ = some (.int .i64 b) := by rw [← hw1, ← hgg]; simp [go_sem]
  have p0 := hk1.cell p0
  have p1 := hk1.cell p1
  have q1 := hk1.cell q1
  have h1 := hk1.cell h1
  have h2 := hk1.cell h2
  have HK := Lib.hid hk1
  have hl1 := lt_of_cell p0
  have hl2 := lt_of_cell p1
  have hl3 := lt_of_cell h1
  have hl4 := lt_of_cell h2
  have hl5 := lt_of_cell r0
  clear hk1 hk2 hb1 hb2 hf1 hz1 hg1 e1 e2 h he hs
  obtain ⟨t1, ht1⟩ : ∃ t1, decide (pa.1 ≤ x) = t1 := ⟨_, rfl⟩
  rw [ht1]
  go_enter Tryz.func88, Tryz.ntmps88
  go_wp2
  refine region_tail 26 (by kernel_rfl) (by kernel_rfl) ?_
  simp only [List.take_succ_cons, List.take_zero, List.drop_succ_cons, List.drop_zero]
  cases t1
  · iterate 13 still_step


    iterate 12
      with_reducible refine wpStill_skip ?_ ?_
      · rfl
      simp only [Act.put, List.setIfInBounds_toArray, List.set_cons_zero, List.set_cons_succ]
    repeat still_step
    refine wpStill_nil ?_
    go_wp2
    go_ret
    exact ⟨rfl, HK.out.drew⟩
  · repeat still_step
    refine wpStill_nil ?_
    go_wp2
    go_ret
    exact ⟨ret_bool (by simp), HK.out.drew⟩
set_option maxHeartbeats 2000000 in
theorem edges_any (g : Nat) (ap : Option Addr) (np cp : Nat) (ae : Option Addr) (ne ce : Nat) (mf : Int) (P : List Pt) (E : List (Nat × Nat)) (Ed : List Five) (face : List Int) (cb : Nat) (caps : Array Value) (f : Nat → Bool) (w : World) (h : WebM w g ap np cp ae ne ce mf P E Ed face)
    (hf : ∀ i, i < ne → ∀ W, Kept w W → Calls Tryz.prog cb (#[fiveV (Ed.getD i (0, 0, 0, 0, 0))] ++ caps) W (Gives (.bool (f i)) W)) (hcb : ∀ args W, (callFunc cb args).run Tryz.prog W = .ok (.enter cb args) W) :
    Calls Tryz.prog 87 #[.pointer (some ⟨g, 0, none⟩), .func (.func cb) #[] caps] w (MakesN (natL ((List.range ne).filter f)) w) := by
  have H := Lib.hid h
  have HF := Lib.hid hf
  have g1 := h.g1
  have hl := lt_of_cell g1
  have hne : ne ≤ 400 := by rw [← h.cnt]; exact h.ends.few
  have HED : Hid (Ed.length = ne) := Lib.hid h.d.he
  obtain ⟨b, hb⟩ : ∃ b, w.heap.size = b := ⟨_, rfl⟩
  clear h hf
  go_enter Tryz.func87, Tryz.ntmps87
  go_wp2
  go_loopw [5, 14] (fun v iv wr => ∃ k : Nat, k ≤ ne ∧ iv = .int .i64 k ∧ OwnN wr b v (natL ((List.range k).filter f)) ∧ Kept w wr) (fun _ iv _ => ne - (intOf iv).toNat)
  case atStart => exact ⟨0, Nat.zero_le _, rfl, OwnG.nil _ _ _ _ _, Kept.refl w⟩
  case round =>
    clear g1 hl
    obtain ⟨k, hk, rfl, hov, hkw⟩ := hrel
    have HOV := Lib.hid hov
    have HKW := Lib.hid hkw
    clear hov hkw
    by_cases hlt : k < ne
    · obtain ⟨B, off, rfl, c0, c1, c2, c3, c4⟩ := (H.out.d.eds.kept HKW.out) k (by rw [HED.out]; exact hlt)
      have hx : Ed[k]'(by rw [HED.out]; exact hlt) = Ed.getD k (0, 0, 0, 0, 0) := by rw [List.getD_eq_getElem?_getD, List.getElem?_eq_getElem (by rw [HED.out]; exact hlt)]; rfl
      rw [hx] at c0 c1 c2 c3 c4
      have HFK := Lib.hid (HF.out k hlt)
      have HSUC : Hid ((List.range (k + 1)).filter f = (List.range k).filter f ++ if f k then [k] else []) := Lib.hid (by rw [List.range_succ, List.filter_append]; by_cases h : f k <;> simp [h])
      have HLEN : Hid ((natL ((List.range k).filter f)).length ≤ 400) := Lib.hid (by
        rw [natL_len]
        have := List.length_filter_le f (List.range k)
        rw [List.length_range] at this
        omega)
      generalize Ed.getD k (0, 0, 0, 0, 0) = x at c0 c1 c2 c3 c4 HFK
      clear hx
      obtain ⟨x1, x2, x3, x4, x5⟩ := x
      simp only [] at c0 c1 c2 c3 c4
      obtain ⟨y1, z1, k1, e1, e2, hg1, hb1, hf1, hk2, hb2, hz1⟩ := new_five 87 wr (x1, x2, x3, x4, x5)
      have HK1 := Lib.hid (HKW.out.trans hk2)
      have HO1 := Lib.hid (OwnG.kept HOV.out hk2)
      clear hk2
      obtain ⟨a0, a1, a2, a3, a4⟩ := hb1
      obtain ⟨r0, r1, r2, r3, r4⟩ := hb2
      simp only [] at r0 r1 r2 r3 r4 e2
      go_wp2_with fail
      refine (HFK.out z1 HK1.out).mono ?_
      rintro e w5 ⟨rfl, hk5⟩
      have HK5 := Lib.hid (HK1.out.trans hk5)
      have HO5 := Lib.hid (OwnG.kept HO1.out hk5)
      clear hk5 e1 e2 a0 a1 a2 a3 a4 r0 r1 r2 r3 r4 c0 c1 c2 c3 c4 hf1
      obtain ⟨fk, hfk⟩ : ∃ fk, f k = fk := ⟨_, rfl⟩
      rw [hfk] at HSUC ⊢
      have HBZ : Hid (b ≤ w5.heap.size) := Lib.hid (by rw [← hb]; exact HK5.out.size)
      clear hfk
      cases fk
      · have HO6 : Hid (OwnN w5 b u5 (natL ((List.range (k + 1)).filter f))) := Lib.hid (by rw [HSUC.out]; simpa using HO5.out)
        go_wp2
        go_roundw
        case rel => exact ⟨k + 1, by omega, by go_num, HO6.out, HK5.out⟩
        case measure => simp [intOf]; omega
      · generalize hM : natL ((List.range k).filter f) = M at *
        have HS2 : Hid (natL ((List.range (k + 1)).filter f) = M ++ [(k : Int)]) := Lib.hid (by rw [HSUC.out, ← hM]; unfold natL; simp)
        clear hM
        go_wp2_with (first | (at_builtin; refine append_int _ rfl _ _ rfl b _ _ rfl (OwnG.kept HO5.out ((Kept.refl _).alloc _)) _ (k : Int) rfl (by simp [go_sem]) (by have := HLEN.out; omega) (by have := HBZ.out; simp; omega) ?_; intro ra rc w6 hown6 hg6 hlies6; have HO6 := Lib.hid hown6; have HG6 : Hid (Kept w w6) := Lib.hid (Kept.grown (HK5.out.alloc _) hg6 (fun r e => by rw [hb]; exact (HO5.out.lt r e).1)); clear hown6 hg6 hlies6) | fail)
        go_roundw
        case rel => exact ⟨k + 1, by omega, by go_num, by rw [HS2.out]; exact HO6.out, HG6.out⟩
        case measure => simp [intOf]; omega
    · have hkn : k = ne := by omega
      subst hkn
      go_wp2
      go_ret
      exact ⟨_, rfl, by rw [hb]; exact HOV.out, HKW.out⟩
end Go.Proofs.YtlglfcdobbocnaaGreat
