/- The closures of faces.assembled: a point's number, a part's ends, the order of parts. -/
import Derived.Test.YtlglfcdobbocnaaGreatXu
set_option maxRecDepth 100000
namespace Go.Proofs.YtlglfcdobbocnaaGreat
open Go Go.Proofs Go.RowKit
attribute [local go_sem] Oper.semAt_some
/-- Behind ao lie parts. -/
def Prts (w : World) (ao : Option Addr) (l : List Prt) : Prop :=
  ∀ i, (h : i < l.length) → ∃ b off, ao = some ⟨b, off, none⟩ ∧ w.cell? ⟨b, off + i * 6, none⟩ = some (.int .i64 l[i].s.1.1) ∧ w.cell? ⟨b, off + i * 6 + 1, none⟩ = some (.int .i64 l[i].s.1.2) ∧ w.cell? ⟨b, off + i * 6 + 2, none⟩ = some (.int .i64 l[i].s.2.1) ∧ w.cell? ⟨b, off + i * 6 + 3, none⟩ = some (.int .i64 l[i].s.2.2) ∧ w.cell? ⟨b, off + i * 6 + 4, none⟩ = some (.int .i64 l[i].line) ∧ w.cell? ⟨b, off + i * 6 + 5, none⟩ = some (.int .i64 l[i].src)
theorem Prts.kept {w X : World} {ao : Option Addr} {l : List Prt} (h : Prts w ao l) (hk : Kept w X) : Prts X ao l := fun i hi => by
  obtain ⟨b, off, e, c0, c1, c2, c3, c4, c5⟩ := h i hi
  exact ⟨b, off, e, hk.cell c0, hk.cell c1, hk.cell c2, hk.cell c3, hk.cell c4, hk.cell c5⟩
/-- The variables of assembled, in memory. -/
structure AsmW (W : World) (mb ti te lb : Nat) (P : List Pt) (L : List Prt) : Prop where
  m : ∃ ap cp, W.cell? ⟨mb, 0, none⟩ = some (.slice ap P.length cp) ∧ Pairs W ap P
  i : W.cell? ⟨ti, 0, none⟩ = some (.func (.func 51) #[] #[.pointer (some ⟨mb, 0, none⟩)])
  e : W.cell? ⟨te, 0, none⟩ = some (.func (.func 53) #[] #[.pointer (some ⟨ti, 0, none⟩), .pointer (some ⟨lb, 0, none⟩)])
  l : ∃ al cl, W.cell? ⟨lb, 0, none⟩ = some (.slice al L.length cl) ∧ Prts W al L
theorem AsmW.kept {W X : World} {mb ti te lb : Nat} {P : List Pt} {L : List Prt} (h : AsmW W mb ti te lb P L) (hk : Kept W X) : AsmW X mb ti te lb P L := by
  obtain ⟨⟨ap, cp, h1, h2⟩, h3, h4, ⟨al, cl, h5, h6⟩⟩ := h
  exact ⟨⟨ap, cp, hk.cell h1, h2.kept hk⟩, hk.cell h3, hk.cell h4, ⟨al, cl, hk.cell h5, h6.kept hk⟩⟩
/-- The parts are between the points. -/
structure Between (P : List Pt) (L : List Prt) : Prop where
  strict : StrictP P
  few : P.length < 100000
  ends : ∀ x ∈ L, x.s.1 ∈ P ∧ x.s.2 ∈ P
set_option maxHeartbeats 1000000 in
theorem place_any (mb : Nat) (P : List Pt) (p : Pt) (w : World) (hm : ∃ ap cp, w.cell? ⟨mb, 0, none⟩ = some (.slice ap P.length cp) ∧ Pairs w ap P) (hs : StrictP P) (hp : p ∈ P) (hl : P.length < 100000) :
    Calls Tryz.prog 51 #[ptV p, .pointer (some ⟨mb, 0, none⟩)] w (Gives (.int .i64 (P.idxOf p)) w) := by
  obtain ⟨ap, cp, c0, hP⟩ := hm
  have HP := Lib.hid hP
  obtain ⟨w0, g0, e0, hg0, hz0, hk0, hb0⟩ := alloc_pt w p
  have HK0 := Lib.hid hk0
  have c0 := hk0.cell c0
  have hl0 := lt_of_cell c0
  obtain ⟨q0, q1⟩ := hb0
  clear hk0 hP
  go_enter Tryz.func51, Tryz.ntmps51
  go_wp2_with fail
  refine (search_any P ap cp p w0 (HP.out.kept HK0.out) hs hp hl).mono ?_
  rintro e w1 ⟨rfl, hk1⟩
  have HK1 := Lib.hid (HK0.out.trans hk1)
  clear hk1
  go_wp2
  go_ret
  exact ⟨rfl, HK1.out⟩
abbrev twoV (a b : Nat) : Value := .agg #[.int .i64 a, .int .i64 b]
theorem load81 {w : World} {k : Nat} {a b : Nat} (h0 : w.cell? ⟨k, 0, none⟩ = some (.int .i64 a)) (h1 : w.cell? ⟨k, 1, none⟩ = some (.int .i64 b)) : (loadVar 81 ⟨k, 0, none⟩).run Tryz.prog w = .ok (twoV a b) w := by
  simp [go_sem, h0, h1]
set_option maxHeartbeats 2000000 in
theorem ends2_any (mb ti te lb : Nat) (P : List Pt) (L : List Prt) (i : Nat) (w : World) (h : AsmW w mb ti te lb P L) (hb : Between P L) (hi : i < L.length) :
    Calls Tryz.prog 53 #[.int .i64 i, .pointer (some ⟨ti, 0, none⟩), .pointer (some ⟨lb, 0, none⟩)] w (Gives (twoV (P.idxOf L[i].s.1) (P.idxOf L[i].s.2)) w) := by
  have H := Lib.hid h
  have HB := Lib.hid hb
  obtain ⟨al, cl, cL, hL⟩ := h.l
  obtain ⟨b, off, rfl, c0, c1, c2, c3, -, -⟩ := hL i hi
  have hmem := hb.ends _ (List.getElem_mem hi)
  have HME := Lib.hid hmem
  generalize L[i] = x at c0 c1 c2 c3 HME
  obtain ⟨⟨p, q⟩, x1, x2⟩ := x
  have HCL := Lib.hid cL
  have HC0 := Lib.hid c0
  have HC1 := Lib.hid c1
  have HC2 := Lib.hid c2
  have HC3 := Lib.hid c3
  have HCI := Lib.hid h.i
  obtain ⟨N, hN⟩ : ∃ N, L.length = N := ⟨_, rfl⟩
  rw [hN] at HCL hi
  obtain ⟨w0, hw0⟩ : ∃ w0, w.alloc (.cells #[.int .i64 0, .int .i64 0] 81) = w0 := ⟨_, rfl⟩
  obtain ⟨g, hg⟩ : ∃ g, w.heap.size = g := ⟨_, rfl⟩
  have HK0 : Hid (Kept w w0) := Lib.hid (by rw [← hw0]; exact (Kept.refl w).alloc _)
  have HZ0 : Hid (w0.cell? ⟨g, 0, none⟩ = some (.int .i64 0) ∧ w0.cell? ⟨g, 1, none⟩ = some (.int .i64 0) ∧ w0.frozen? ⟨g, 0, none⟩ = false ∧ w0.frozen? ⟨g, 1, none⟩ = false) := Lib.hid (by rw [← hw0, ← hg]; exact ⟨by simp [go_sem], by simp [go_sem], by simp [go_sem], by simp [go_sem]⟩)
  clear h hb cL c0 c1 c2 c3 hmem hL hN
  go_enter Tryz.func53, Tryz.ntmps53
  go_wp2
  refine region_class (fun Z => Kept w0 Z) 15 (by kernel_rfl) (by kernel_rfl) (Kept.refl _).drew ?_
  simp only [List.take_succ_cons, List.take_zero, List.drop_succ_cons, List.drop_zero]
  refine wpQuiet_yield (.func (.func 51) #[] #[.pointer (some ⟨mb, 0, none⟩)]) (by rfl) (fun Z hZ => ?_) ?_
  · have r := (HK0.out.trans hZ).cell HCI.out
    have rb := lt_of_cell r
    go_simp
  simp only [Act.put, List.setIfInBounds_toArray, List.set_cons_zero, List.set_cons_succ]
  refine wpQuiet_yield (.slice (some ⟨b, off, none⟩) N cl) (by rfl) (fun Z hZ => ?_) ?_
  · have r := (HK0.out.trans hZ).cell HCL.out
    have rb := lt_of_cell r
    go_simp
  simp only [Act.put, List.setIfInBounds_toArray, List.set_cons_zero, List.set_cons_succ]
  refine wpQuiet_yield (.int .i64 i) (by rfl) (fun Z hZ => ?_) ?_
  · go_simp
  simp only [Act.put, List.setIfInBounds_toArray, List.set_cons_zero, List.set_cons_succ]
  refine wpQuiet_yield (.pointer (some ⟨b, off + i * 6, none⟩)) (by rfl) (fun Z hZ => ?_) ?_
  · go_simp
  simp only [Act.put, List.setIfInBounds_toArray, List.set_cons_zero, List.set_cons_succ]
  refine wpQuiet_yield (.pointer (some ⟨b, off + i * 6, none⟩)) (by rfl) (fun Z hZ => ?_) ?_
  · go_simp
  simp only [Act.put, List.setIfInBounds_toArray, List.set_cons_zero, List.set_cons_succ]
  refine wpQuiet_yield (ptV p) (by rfl) (fun Z hZ => ?_) ?_
  · have r0 := (HK0.out.trans hZ).cell HC0.out
    have r1 := (HK0.out.trans hZ).cell HC1.out
    have rb := lt_of_cell r0
    go_simp
  simp only [Act.put, List.setIfInBounds_toArray, List.set_cons_zero, List.set_cons_succ]
  refine wpQuiet_yield (.int .i64 (P.idxOf p)) (by rfl) (fun Z hZ => ?_) ?_
  · go_simp
    exact (place_any mb P p Z (H.out.kept (HK0.out.trans hZ)).m HB.out.strict HME.out.1 HB.out.few).mono fun e Z' h => ⟨h.1, hZ.trans h.2⟩
  simp only [Act.put, List.setIfInBounds_toArray, List.set_cons_zero, List.set_cons_succ]
  refine wpQuiet_yield (.func (.func 51) #[] #[.pointer (some ⟨mb, 0, none⟩)]) (by rfl) (fun Z hZ => ?_) ?_
  · have r := (HK0.out.trans hZ).cell HCI.out
    have rb := lt_of_cell r
    go_simp
  simp only [Act.put, List.setIfInBounds_toArray, List.set_cons_zero, List.set_cons_succ]
  refine wpQuiet_yield (.slice (some ⟨b, off, none⟩) N cl) (by rfl) (fun Z hZ => ?_) ?_
  · have r := (HK0.out.trans hZ).cell HCL.out
    have rb := lt_of_cell r
    go_simp
  simp only [Act.put, List.setIfInBounds_toArray, List.set_cons_zero, List.set_cons_succ]
  refine wpQuiet_yield (.int .i64 i) (by rfl) (fun Z hZ => ?_) ?_
  · go_simp
  simp only [Act.put, List.setIfInBounds_toArray, List.set_cons_zero, List.set_cons_succ]
  refine wpQuiet_yield (.pointer (some ⟨b, off + i * 6, none⟩)) (by rfl) (fun Z hZ => ?_) ?_
  · go_simp
  simp only [Act.put, List.setIfInBounds_toArray, List.set_cons_zero, List.set_cons_succ]
  refine wpQuiet_yield (.pointer (some ⟨b, off + i * 6 + 2, none⟩)) (by rfl) (fun Z hZ => ?_) ?_
  · go_simp
  simp only [Act.put, List.setIfInBounds_toArray, List.set_cons_zero, List.set_cons_succ]
  refine wpQuiet_yield (ptV q) (by rfl) (fun Z hZ => ?_) ?_
  · have r0 := (HK0.out.trans hZ).cell HC2.out
    have r1 := (HK0.out.trans hZ).cell HC3.out
    have rb := lt_of_cell r0
    go_simp
  simp only [Act.put, List.setIfInBounds_toArray, List.set_cons_zero, List.set_cons_succ]
  refine wpQuiet_yield (.int .i64 (P.idxOf q)) (by rfl) (fun Z hZ => ?_) ?_
  · go_simp
    exact (place_any mb P q Z (H.out.kept (HK0.out.trans hZ)).m HB.out.strict HME.out.2 HB.out.few).mono fun e Z' h => ⟨h.1, hZ.trans h.2⟩
  simp only [Act.put, List.setIfInBounds_toArray, List.set_cons_zero, List.set_cons_succ]
  refine wpQuiet_yield (twoV (P.idxOf p) (P.idxOf q)) (by rfl) (fun Z hZ => ?_) ?_
  · go_simp
  simp only [Act.put, List.setIfInBounds_toArray, List.set_cons_zero, List.set_cons_succ]
  refine wpQuiet_nil ?_
  intro X2 hk2
  have HX2 := Lib.hid (HK0.out.trans hk2)
  have r0 := hk2.cell HZ0.out.1
  have r1 := hk2.cell HZ0.out.2.1
  have hgl : g < w0.heap.size := lt_of_cell HZ0.out.1
  have f0 := (hk2.cells.2 g 0 hgl).trans HZ0.out.2.2.1
  have f1 := (hk2.cells.2 g 1 hgl).trans HZ0.out.2.2.2
  have rb := lt_of_cell r0
  clear hk2 hw0
  go_wp2
  refine bodyPost_ret (results_cell rfl _ _ ⟨g, 0, none⟩ rfl _ (load81 (a := P.idxOf p) (b := P.idxOf q) ((cell_set_or (cell_set_or r0)).trans (by simp)) ((cell_set_or (cell_set_or r1)).trans (by simp)))) rfl ?_
  have hgw : w.heap.size ≤ g := Nat.le_of_eq hg
  exact ⟨rfl, (HX2.out.setCell (p := ⟨g, 0, none⟩) hgw _).setCell (p := ⟨g, 1, none⟩) hgw _⟩
end Go.Proofs.YtlglfcdobbocnaaGreat
