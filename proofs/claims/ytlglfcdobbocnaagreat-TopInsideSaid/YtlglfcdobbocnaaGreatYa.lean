/- faces.assembled: words. -/
import Derived.Test.YtlglfcdobbocnaaGreatXz
import Derived.Test.YtlglfcdobbocnaaGreatXy
set_option maxRecDepth 100000
namespace Go.Proofs.YtlglfcdobbocnaaGreat
open Go Go.Proofs Go.RowKit
attribute [local go_sem] Oper.semAt_some
theorem results_cell_tmp2 {P : Program} {fn : Func} {t u v : Tmp} {ty : TypeId} (h : fn.results = #[.cell t ty, .tmp u, .tmp v]) (tmps : Array Value) (w : World) (a : Addr) (ha : tmps.getD t undef = .pointer (some a)) (x : Value) (hl : (loadVar ty a).run P w = .ok x w) :
    (results fn tmps).run P w = .ok (.tuple #[x, tmps.getD u undef, tmps.getD v undef]) w := by
  rw [Array.getD_eq_getD_getElem?] at ha
  simp [results, h, asAddr, ha, hl]
/-- A map in a variable. -/
structure MBox (X : World) (g : Nat) (vp ve : Value) (f : Int) : Prop where
  c0 : X.cell? ⟨g, 0, none⟩ = some vp
  c1 : X.cell? ⟨g, 1, none⟩ = some ve
  c2 : X.cell? ⟨g, 2, none⟩ = some (.int .i64 f)
  warm : ∀ o, X.frozen? ⟨g, o, none⟩ = false
section
variable {X Y : World} {g : Nat} {vp ve : Value} {f : Int}
theorem MBox.kept (h : MBox X g vp ve f) (hk : Kept X Y) : MBox Y g vp ve f := ⟨hk.cell h.c0, hk.cell h.c1, hk.cell h.c2, fun o => (hk.cells.2 g o (lt_of_cell h.c0)).trans (h.warm o)⟩
theorem MBox.grown (h : MBox X g vp ve f) {row : Option Nat} (hg : X.grownBy Y row) (hn : some g ≠ row) : MBox Y g vp ve f :=
  ⟨grown_cell hg h.c0 hn, grown_cell hg h.c1 hn, grown_cell hg h.c2 hn, fun o => grown_warm h.warm (lt_of_cell h.c0) hg hn o⟩
theorem MBox.put0 (h : MBox X g vp ve f) (v : Value) : MBox (X.setCell ⟨g, 0, none⟩ v) g v ve f := ⟨cell_set_same h.c0, cell_set_off h.c1 (by omega), cell_set_off h.c2 (by omega), fun o => by rw [World.frozen?_setCell]; exact h.warm o⟩
theorem MBox.put1 (h : MBox X g vp ve f) (v : Value) : MBox (X.setCell ⟨g, 1, none⟩ v) g vp v f := ⟨cell_set_off h.c0 (by omega), cell_set_same h.c1, cell_set_off h.c2 (by omega), fun o => by rw [World.frozen?_setCell]; exact h.warm o⟩
theorem MBox.put2 (h : MBox X g vp ve f) (n : Int) : MBox (X.setCell ⟨g, 2, none⟩ (.int .i64 n)) g vp ve n := ⟨cell_set_off h.c0 (by omega), cell_set_off h.c1 (by omega), cell_set_same h.c2, fun o => by rw [World.frozen?_setCell]; exact h.warm o⟩
theorem MBox.other (h : MBox X g vp ve f) {k o : Nat} {v : Value} (hn : g ≠ k) : MBox (X.setCell ⟨k, o, none⟩ v) g vp ve f := ⟨cell_set_block h.c0 hn, cell_set_block h.c1 hn, cell_set_block h.c2 hn, fun i => by rw [World.frozen?_setCell]; exact h.warm i⟩
theorem load29 (h : MBox X g vp ve f) : (loadVar 29 ⟨g, 0, none⟩).run Tryz.prog X = .ok (.agg #[vp, ve, .int .i64 f]) X := by
  simp [go_sem, h.c0, h.c1, h.c2]
end
/-- A part put into a new variable. -/
theorem new_prt (X : World) (p : Prt) : ∃ w2 w3 g, X.alloc (.cells #[.int .i64 0, .int .i64 0, .int .i64 0, .int .i64 0, .int .i64 0, .int .i64 0] 50) = w2 ∧
    (((((w2.setCell ⟨g, 0, none⟩ (.int .i64 p.s.1.1)).setCell ⟨g, 1, none⟩ (.int .i64 p.s.1.2)).setCell ⟨g, 2, none⟩ (.int .i64 p.s.2.1)).setCell ⟨g, 3, none⟩ (.int .i64 p.s.2.2)).setCell ⟨g, 4, none⟩ (.int .i64 p.line)).setCell ⟨g, 5, none⟩ (.int .i64 p.src) = w3 ∧ X.heap.size = g ∧ PrtBox w2 g ⟨((0, 0), (0, 0)), 0, 0⟩ ∧
    (∀ o, w2.frozen? ⟨g, o, none⟩ = false) ∧ Kept X w3 ∧ PrtBox w3 g p ∧ w3.heap.size = g + 1 := by
  have hb : PrtBox (X.alloc (.cells #[.int .i64 0, .int .i64 0, .int .i64 0, .int .i64 0, .int .i64 0, .int .i64 0] 50)) X.heap.size ⟨((0, 0), (0, 0)), 0, 0⟩ := ⟨by simp [go_sem], by simp [go_sem], by simp [go_sem], by simp [go_sem], by simp [go_sem], by simp [go_sem]⟩
  refine ⟨_, _, X.heap.size, rfl, rfl, rfl, hb, fun o => frozen_alloc _ _ _ o, ?_, hb.put p, by simp⟩
  exact ((((((Kept.refl X).alloc _).setCell (p := ⟨X.heap.size, 0, none⟩) (Nat.le_refl _) _).setCell (p := ⟨X.heap.size, 1, none⟩) (Nat.le_refl _) _).setCell (p := ⟨X.heap.size, 2, none⟩) (Nat.le_refl _) _).setCell (p := ⟨X.heap.size, 3, none⟩) (Nat.le_refl _) _).setCell (p := ⟨X.heap.size, 4, none⟩) (Nat.le_refl _) _ |>.setCell (p := ⟨X.heap.size, 5, none⟩) (Nat.le_refl _) _
/-- The faces beside an edge. -/
def fcsF (P : List Pt) (E : List (Nat × Nat)) (k : Nat) : Int × Int := (faceE P E (2 * k), faceE P E (2 * k + 1))
/-- What assembled hands back. -/
def AsmOut (L : List Prt) (w : World) (e : Ending) (w' : World) : Prop := ∃ ap np cp ae ne ce mf oo on oc er, e = .returned (.tuple #[mapV ap np cp ae ne ce mf, .slice oo on oc, .int .i64 er]) ∧ Kept w w' ∧ (er = 0 ↔ Joined (segsL L)) ∧
  (er = 0 → np = (ptsF (segsL L)).length ∧ ne = L.length ∧ mf = (numE (ptsF (segsL L)) (edgesF (segsL L)) (2 * L.length)).many ∧ MapD w' ap ae (ptsF (segsL L)) (edgesF (segsL L)) (asmEds L (fcsF (ptsF (segsL L)) (edgesF (segsL L)))) np ne ∧ (∀ x, ap = some x → w.heap.size ≤ x.block ∧ x.block < w'.heap.size) ∧ ∀ x, ae = some x → w.heap.size ≤ x.block)
theorem asm_fail {L : List Prt} {w w' : World} {e : Ending} {oo : Option Addr} {on oc : Nat} (er : Int) (he : e = .returned (.tuple #[mapV none 0 0 none 0 0 0, .slice oo on oc, .int .i64 er])) (hk : Kept w w') (h0 : er ≠ 0) (hj : ¬ Joined (segsL L)) : AsmOut L w e w' :=
  ⟨none, 0, 0, none, 0, 0, 0, oo, on, oc, er, he, hk, ⟨fun h => absurd h h0, fun h => absurd h hj⟩, fun h => absurd h h0⟩
theorem two_cells (X : World) (a b : Pt) : ∀ j u, ([a, b].flatMap pairC)[j]? = some u → (X.alloc (.cells #[.int .i64 a.1, .int .i64 a.2, .int .i64 b.1, .int .i64 b.2] 25)).cell? ⟨X.heap.size, 0 + j, none⟩ = some u := fun j u hu => by
  rw [Nat.zero_add]
  exact (cell_new_at X _ 25 j).trans (by simpa [pairC] using hu)
/-- Two numbers put into a new variable. -/
theorem new_pr (t : Nat) (X : World) (s : Pt) : ∃ w2 w3 g, X.alloc (.cells #[.int .i64 0, .int .i64 0] t) = w2 ∧
    (w2.setCell ⟨g, 0, none⟩ (.int .i64 s.1)).setCell ⟨g, 1, none⟩ (.int .i64 s.2) = w3 ∧ X.heap.size = g ∧ PtBox w2 g (0, 0) ∧
    (∀ o, w2.frozen? ⟨g, o, none⟩ = false) ∧ Kept X w3 ∧ PtBox w3 g s ∧ w3.heap.size = g + 1 := by
  have hb : PtBox (X.alloc (.cells #[.int .i64 0, .int .i64 0] t)) X.heap.size (0, 0) := ⟨by simp [go_sem], by simp [go_sem]⟩
  refine ⟨_, _, X.heap.size, rfl, rfl, rfl, hb, fun o => frozen_alloc _ _ _ o, ?_, hb.put _ _, by simp⟩
  exact (((Kept.refl X).alloc _).setCell (p := ⟨X.heap.size, 0, none⟩) (Nat.le_refl _) _).setCell (p := ⟨X.heap.size, 1, none⟩) (Nat.le_refl _) _
/-- The order while it is filled. -/
def ordL (n j : Nat) : List Int := (List.range n).map fun (i : Nat) => if i < j then (i : Int) else 0
theorem ordL_len (n j : Nat) : (ordL n j).length = n := by unfold ordL; simp
theorem ordL_zero (n : Nat) : ordL n 0 = List.replicate n 0 := by
  apply List.ext_getElem
  · simp [ordL_len]
  · intro i h1 h2
    simp [ordL]
theorem ordL_set (n j : Nat) : (ordL n j).set j (j : Int) = ordL n (j + 1) := by
  apply List.ext_getElem
  · simp [ordL_len]
  · intro i h1 h2
    rw [List.getElem_set]
    simp only [ordL, List.getElem_map, List.getElem_range]
    split
    · rename_i e
      rw [← e, if_pos (by omega)]
    · by_cases c : i < j
      · rw [if_pos c, if_pos (by omega)]
      · rw [if_neg c, if_neg (by omega)]
theorem ordL_all (n : Nat) : ordL n n = natL (List.range n) := by
  unfold ordL natL
  refine List.map_congr_left fun i hi => ?_
  rw [if_pos (List.mem_range.1 hi)]
/-- A function put into a new variable. -/
theorem new_fn (t : Nat) (X : World) (v : Value) : ∃ w2 w3 g, X.alloc (.cells #[.nilFunc] t) = w2 ∧ w2.setCell ⟨g, 0, none⟩ v = w3 ∧ X.heap.size = g ∧ w2.cell? ⟨g, 0, none⟩ = some .nilFunc ∧ w2.frozen? ⟨g, 0, none⟩ = false ∧ Kept X w3 ∧ w3.cell? ⟨g, 0, none⟩ = some v ∧ w3.heap.size = g + 1 := by
  have hc : (X.alloc (.cells #[.nilFunc] t)).cell? ⟨X.heap.size, 0, none⟩ = some .nilFunc := by simp [go_sem]
  refine ⟨_, _, X.heap.size, rfl, rfl, rfl, hc, frozen_alloc _ _ _ _, ((Kept.refl X).alloc _).setCell (p := ⟨X.heap.size, 0, none⟩) (Nat.le_refl _) _, cell_set_same hc, by simp⟩
/-- Edges of the call's own. -/
abbrev OwnE (X : World) (base : Nat) (v : Value) (l : List Five) : Prop := OwnG X base 87 5 fiveC v l
theorem info87 : (Tryz.prog.info? 87).map (fun i => (i.zero, i.size, i.bytes)) = some (some (.agg #[.int .i64 0, .int .i64 0, .int .i64 0, .int .i64 0, .int .i64 0]), 5, 40) := by kernel_rfl
theorem ord_get {S : List Sg} {k : Nat} (h : k < (natL (orderF S)).length) : (natL (orderF S))[k] = ((ordAt S k : Nat) : Int) := by
  have h' : k < (orderF S).length := by unfold natL at h; simpa using h
  unfold ordAt
  rw [List.getD_eq_getElem?_getD, List.getElem?_eq_getElem h', Option.getD_some]
  simp only [natL, List.getElem_map]
theorem ord_len (S : List Sg) : (natL (orderF S)).length = S.length := by unfold natL; rw [List.length_map, orderF_len]
theorem kept3 {w X : World} {b : Nat} (h : Kept w X) (hb : w.heap.size ≤ b) (u v y : Value) : Kept w (((X.setCell ⟨b, 0, none⟩ u).setCell ⟨b, 1, none⟩ v).setCell ⟨b, 2, none⟩ y) :=
  ((h.setCell (p := ⟨b, 0, none⟩) hb _).setCell (p := ⟨b, 1, none⟩) hb _).setCell (p := ⟨b, 2, none⟩) hb _
/-- The two faces of an edge are put. -/
theorem OwnE.faces {X : World} {base g c n : Nat} {l : List Five} (h : OwnE X base (.slice (some ⟨g, 0, none⟩) n c) l) {k : Nat} (hk : k < l.length) (a b : Int) :
    OwnE ((X.setCell ⟨g, k * 5 + 2, none⟩ (.int .i64 a)).setCell ⟨g, k * 5 + 3, none⟩ (.int .i64 b)) base (.slice (some ⟨g, 0, none⟩) n c) (l.set k (l[k].1, l[k].2.1, a, b, l[k].2.2.2.2)) := by
  obtain ⟨cur, rfl, hb, hh, hn, hm, hs, ht⟩ := OwnG.parts h
  refine OwnG.of_parts fiveC_len (by simp) hb (heap_setCell_same _ g _ _ 87 _ (heap_setCell_same X g _ cur 87 _ hh)) hn hm (by simpa using hs) ?_
  rw [Array.toList_setIfInBounds, Array.toList_setIfInBounds]
  apply List.ext_getElem?
  intro j
  have key : ∀ (q : List Five) (i r : Nat), (hi : i < q.length) → r < 5 → (q.flatMap fiveC)[i * 5 + r]? = (fiveC q[i])[r]? := fun q i r hi hr => flatMap_get fiveC_len q i r hi hr
  have hlen : ∀ q : List Five, (q.flatMap fiveC).length = q.length * 5 := fun q => flatMap_len fiveC_len q
  by_cases hj : j < l.length * 5
  · rw [List.getElem?_take_of_lt hj]
    have e : j = j / 5 * 5 + j % 5 := by omega
    have hi : j / 5 < l.length := by omega
    have hr : j % 5 < 5 := by omega
    have hold : cur.toList[j]? = (l.flatMap fiveC)[j]? := by
      rw [← ht, List.getElem?_take_of_lt hj]
    have hnew := key (l.set k (l[k].1, l[k].2.1, a, b, l[k].2.2.2.2)) (j / 5) (j % 5) (by simpa using hi) hr
    have hold2 := key l (j / 5) (j % 5) hi hr
    rw [← e] at hnew hold2
    rw [hnew, List.getElem_set, List.getElem?_set, List.getElem?_set, hold, hold2]
    have hcl : cur.toList.length = c * 5 := by simpa using hs
    by_cases c1 : k = j / 5
    · rw [if_pos c1]
      subst c1
      by_cases c3 : j % 5 = 3
      · rw [if_pos (by omega), if_pos (by simp; omega)]
        rw [c3]
        rfl
      · rw [if_neg (by omega)]
        by_cases c2 : j % 5 = 2
        · rw [if_pos (by omega), if_pos (by omega)]
          rw [c2]
          rfl
        · rw [if_neg (by omega)]
          have h5 : j % 5 = 0 ∨ j % 5 = 1 ∨ j % 5 = 4 := by omega
          rcases h5 with h5 | h5 | h5 <;> rw [h5] <;> rfl
    · rw [if_neg c1, if_neg (by omega), if_neg (by omega)]
  · rw [List.getElem?_take_eq_none (by omega), List.getElem?_eq_none (by rw [hlen]; simp; omega)]
end Go.Proofs.YtlglfcdobbocnaaGreat
