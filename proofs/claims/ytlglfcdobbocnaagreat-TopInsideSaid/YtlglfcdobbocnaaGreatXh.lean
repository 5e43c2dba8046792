/- faces.spread. -/
import Derived.Test.YtlglfcdobbocnaaGreatXl
import Derived.Deep.OwnRows
set_option maxRecDepth 100000
namespace Go.Proofs.YtlglfcdobbocnaaGreat
open Go Go.Proofs Go.RowKit
attribute [local go_sem] Oper.semAt_some
abbrev mapV (ap : Option Addr) (np cp : Nat) (ae : Option Addr) (ne ce : Nat) (mf : Int) : Value := .agg #[.slice ap np cp, .slice ae ne ce, .int .i64 mf]
/-- The web while it is made: the slice of all darts, the rows of the darts about each point. -/
structure Sp (w X : World) (cw g o : Nat) (ap : Option Addr) (np cp : Nat) (ae : Option Addr) (ne ce : Nat) (mf : Int) (va : Value) (rows : List Value) : Prop where
  kept : Kept w X
  c : X.cell? ⟨cw, 0, none⟩ = some (.pointer (some ⟨g, 0, none⟩))
  g0 : X.cell? ⟨g, 0, none⟩ = some (.slice ap np cp)
  g1 : X.cell? ⟨g, 1, none⟩ = some (.slice ae ne ce)
  g2 : X.cell? ⟨g, 2, none⟩ = some (.int .i64 mf)
  g3 : X.cell? ⟨g, 3, none⟩ = some va
  g4 : X.cell? ⟨g, 4, none⟩ = some (.slice (some ⟨o, 0, none⟩) np np)
  g5 : X.cell? ⟨g, 5, none⟩ = some (.slice none 0 0)
  fg : ∀ i, X.frozen? ⟨g, i, none⟩ = false
  own : OwnV X w.heap.size 36 (.slice (some ⟨o, 0, none⟩) np np) rows
  n1 : cw ≠ g
  n2 : cw ≠ o
  n3 : g ≠ o
  wc : w.heap.size ≤ cw
  wg : w.heap.size ≤ g
  wo : w.heap.size ≤ o
abbrev Begun (w X : World) (cw g o : Nat) (ap : Option Addr) (np cp : Nat) (ae : Option Addr) (ne ce : Nat) (mf : Int) : Prop := Sp w X cw g o ap np cp ae ne ce mf (.slice none 0 0) (List.replicate np (.slice none 0 0))
section
variable {w X Y : World} {cw g o : Nat} {ap : Option Addr} {np cp : Nat} {ae : Option Addr} {ne ce : Nat} {mf : Int} {va : Value} {rows : List Value}
theorem Sp.to (h : Sp w X cw g o ap np cp ae ne ce mf va rows) (hk : Kept X Y) : Sp w Y cw g o ap np cp ae ne ce mf va rows :=
  ⟨h.kept.trans hk, hk.cell h.c, hk.cell h.g0, hk.cell h.g1, hk.cell h.g2, hk.cell h.g3, hk.cell h.g4, hk.cell h.g5, fun i => (hk.cells.2 g i (lt_of_cell h.g0)).trans (h.fg i), OwnG.kept h.own hk, h.n1, h.n2, h.n3, h.wc, h.wg, h.wo⟩
theorem grown_cell {row : Option Nat} (hg : X.grownBy Y row) {b i : Nat} {v : Value} (hc : X.cell? ⟨b, i, none⟩ = some v) (hn : some b ≠ row) : Y.cell? ⟨b, i, none⟩ = some v := hg.cell (a := ⟨b, i, none⟩) hc hn
/-- A row other than its own has grown. -/
theorem Sp.grown (h : Sp w X cw g o ap np cp ae ne ce mf va rows) {row : Option Nat} (hg : X.grownBy Y row) (hr : ∀ r, row = some r → w.heap.size ≤ r ∧ r ≠ cw ∧ r ≠ g ∧ r ≠ o) : Sp w Y cw g o ap np cp ae ne ce mf va rows := by
  have f : ∀ b, (b = cw ∨ b = g ∨ b = o) → some b ≠ row := fun b hb e => by
    have := hr b e.symm
    omega
  refine ⟨h.kept.grown hg fun r e => (hr r e).1, grown_cell hg h.c (f _ (.inl rfl)), grown_cell hg h.g0 (f _ (.inr (.inl rfl))), grown_cell hg h.g1 (f _ (.inr (.inl rfl))), grown_cell hg h.g2 (f _ (.inr (.inl rfl))), grown_cell hg h.g3 (f _ (.inr (.inl rfl))), grown_cell hg h.g4 (f _ (.inr (.inl rfl))), grown_cell hg h.g5 (f _ (.inr (.inl rfl))), fun i => ?_, OwnG.grownNe h.own hg (fun k e => by cases e; exact f _ (.inr (.inr rfl))), h.n1, h.n2, h.n3, h.wc, h.wg, h.wo⟩
  exact (World.frozen?_of_block (a := ⟨g, i, none⟩) (hg.block g (lt_of_cell h.g0) (f _ (.inr (.inl rfl))))).trans (h.fg i)
theorem Fives.kept {w w' : World} {ao : Option Addr} {l : List Five} (h : Fives w ao l) (hk : Kept w w') : Fives w' ao l := fun i hi => by
  obtain ⟨b, off, rfl, c0, c1, c2, c3, c4⟩ := h i hi
  exact ⟨b, off, rfl, hk.cell c0, hk.cell c1, hk.cell c2, hk.cell c3, hk.cell c4⟩
/-- The slice of all darts is put. -/
theorem Sp.put (h : Sp w X cw g o ap np cp ae ne ce mf va rows) (u : Value) : Sp w (X.setCell ⟨g, 3, none⟩ u) cw g o ap np cp ae ne ce mf u rows :=
  ⟨h.kept.setCell (p := ⟨g, 3, none⟩) h.wg _, cell_set_block h.c h.n1, cell_set_off h.g0 (by omega), cell_set_off h.g1 (by omega), cell_set_off h.g2 (by omega), cell_set_same h.g3, cell_set_off h.g4 (by omega), cell_set_off h.g5 (by omega), fun i => by rw [World.frozen?_setCell]; exact h.fg i, OwnG.setNe h.own (by simp [Value.ownBlock]; exact fun e => h.n3 e.symm) _, h.n1, h.n2, h.n3, h.wc, h.wg, h.wo⟩
/-- A row of the darts about a point is put. -/
theorem Sp.row (h : Sp w X cw g o ap np cp ae ne ce mf va rows) (p : Nat) (u : Value) : Sp w (X.setCell ⟨o, p, none⟩ u) cw g o ap np cp ae ne ce mf va (rows.set p u) :=
  ⟨h.kept.setCell (p := ⟨o, p, none⟩) h.wo _, cell_set_block h.c h.n2, cell_set_block h.g0 h.n3, cell_set_block h.g1 h.n3, cell_set_block h.g2 h.n3, cell_set_block h.g3 h.n3, cell_set_block h.g4 h.n3, cell_set_block h.g5 h.n3, fun i => by rw [World.frozen?_setCell]; exact h.fg i, OwnG.setV h.own p u, h.n1, h.n2, h.n3, h.wc, h.wg, h.wo⟩
end
structure FvBox (X : World) (g : Nat) (x : Five) : Prop where
  c0 : X.cell? ⟨g, 0, none⟩ = some (.int .i64 x.1)
  c1 : X.cell? ⟨g, 1, none⟩ = some (.int .i64 x.2.1)
  c2 : X.cell? ⟨g, 2, none⟩ = some (.int .i64 x.2.2.1)
  c3 : X.cell? ⟨g, 3, none⟩ = some (.int .i64 x.2.2.2.1)
  c4 : X.cell? ⟨g, 4, none⟩ = some (.int .i64 x.2.2.2.2)
theorem FvBox.kept {X Y : World} {g : Nat} {x : Five} (h : FvBox X g x) (hk : Kept X Y) : FvBox Y g x := ⟨hk.cell h.c0, hk.cell h.c1, hk.cell h.c2, hk.cell h.c3, hk.cell h.c4⟩
/-- A five put into a new variable. -/
theorem new_five (t : Nat) (X : World) (s : Five) : ∃ w2 w3 g, X.alloc (.cells #[.int .i64 0, .int .i64 0, .int .i64 0, .int .i64 0, .int .i64 0] t) = w2 ∧
    ((((w2.setCell ⟨g, 0, none⟩ (.int .i64 s.1)).setCell ⟨g, 1, none⟩ (.int .i64 s.2.1)).setCell ⟨g, 2, none⟩ (.int .i64 s.2.2.1)).setCell ⟨g, 3, none⟩ (.int .i64 s.2.2.2.1)).setCell ⟨g, 4, none⟩ (.int .i64 s.2.2.2.2) = w3 ∧ X.heap.size = g ∧ FvBox w2 g (0, 0, 0, 0, 0) ∧
    (∀ o, w2.frozen? ⟨g, o, none⟩ = false) ∧ Kept X w3 ∧ FvBox w3 g s ∧ w3.heap.size = g + 1 := by
  have hb : FvBox (X.alloc (.cells #[.int .i64 0, .int .i64 0, .int .i64 0, .int .i64 0, .int .i64 0] t)) X.heap.size (0, 0, 0, 0, 0) := ⟨by simp [go_sem], by simp [go_sem], by simp [go_sem], by simp [go_sem], by simp [go_sem]⟩
  have hk : Kept X (X.alloc (.cells #[.int .i64 0, .int .i64 0, .int .i64 0, .int .i64 0, .int .i64 0] t)) := (Kept.refl X).alloc _
  refine ⟨_, _, _, rfl, rfl, rfl, hb, fun o => frozen_alloc _ _ _ o, ?_, ?_, by simp⟩
  · exact ((((hk.setCell (p := ⟨X.heap.size, 0, none⟩) (Nat.le_refl _) _).setCell (p := ⟨X.heap.size, 1, none⟩) (Nat.le_refl _) _).setCell (p := ⟨X.heap.size, 2, none⟩) (Nat.le_refl _) _).setCell (p := ⟨X.heap.size, 3, none⟩) (Nat.le_refl _) _).setCell (p := ⟨X.heap.size, 4, none⟩) (Nat.le_refl _) _
  · exact ⟨(cell_set_or (cell_set_or (cell_set_or (cell_set_or (cell_set_or hb.c0))))).trans (by simp), (cell_set_or (cell_set_or (cell_set_or (cell_set_or (cell_set_or hb.c1))))).trans (by simp), (cell_set_or (cell_set_or (cell_set_or (cell_set_or (cell_set_or hb.c2))))).trans (by simp), (cell_set_or (cell_set_or (cell_set_or (cell_set_or (cell_set_or hb.c3))))).trans (by simp), (cell_set_or (cell_set_or (cell_set_or (cell_set_or (cell_set_or hb.c4))))).trans (by simp)⟩
theorem made_own {X : World} {base e g np : Nat} {z : Value} (hb : base ≤ g) (hn : np < 1099511627776) (h : X.heap[g]? = some (.cells (madeCells #[z] np) e)) : OwnV X base e (.slice (some ⟨g, 0, none⟩) np np) (List.replicate np z) := by
  refine OwnG.of_parts (cs := fun x : Value => [x]) (fun _ => rfl) (by simp) hb h (Nat.le_refl _) (by unfold maxLen; omega) (by simp [madeCells]) ?_
  rw [flat_val]
  apply List.ext_getElem
  · simp [madeCells]
  · intro i h1 h2
    simp [madeCells, Nat.mod_one]
abbrev webV (ap : Option Addr) (np cp : Nat) (ae : Option Addr) (ne ce : Nat) (mf : Int) (o : Nat) : Obj := .cells #[.slice ap np cp, .slice ae ne ce, .int .i64 mf, .slice none 0 0, .slice (some ⟨o, 0, none⟩) np np, .slice none 0 0] 93
section
variable (w : World) (ap : Option Addr) (np cp : Nat) (ae : Option Addr) (ne ce : Nat) (mf : Int)
theorem begun1 (hn : np < 1099511627776) : Begun w (((w.alloc (.cells (madeCells #[.slice none 0 0] np) 36)).alloc (.cells #[.pointer (some ⟨w.heap.size + 1 + 1, 0, none⟩)] 59)).alloc (webV ap np cp ae ne ce mf w.heap.size)).drew (w.heap.size + 1) (w.heap.size + 1 + 1) w.heap.size ap np cp ae ne ce mf := by
  have h1 := heap_alloc_new w (.cells (madeCells #[.slice none 0 0] np) 36)
  refine ⟨(((Kept.refl w).alloc _).alloc _).alloc _ |>.drew, by simp [go_sem], by simp [go_sem], by simp [go_sem], by simp [go_sem], by simp [go_sem], by simp [go_sem], by simp [go_sem], fun i => by simp [go_sem], ?_, by omega, by omega, by omega, by omega, by omega, by omega⟩
  exact OwnG.kept (made_own (Nat.le_refl _) hn h1) ((((Kept.refl _).alloc _).alloc _).drew)
theorem begun2 (hn : np < 1099511627776) : Begun w (((w.alloc (.cells #[.pointer (some ⟨w.heap.size + 1 + 1, 0, none⟩)] 59)).alloc (.cells (madeCells #[.slice none 0 0] np) 36)).alloc (webV ap np cp ae ne ce mf (w.heap.size + 1))).drew w.heap.size (w.heap.size + 1 + 1) (w.heap.size + 1) ap np cp ae ne ce mf := by
  have h1 := heap_alloc_new (w.alloc (.cells #[.pointer (some ⟨w.heap.size + 1 + 1, 0, none⟩)] 59)) (.cells (madeCells #[.slice none 0 0] np) 36)
  rw [World.size_alloc] at h1
  refine ⟨(((Kept.refl w).alloc _).alloc _).alloc _ |>.drew, by simp [go_sem], by simp [go_sem], by simp [go_sem], by simp [go_sem], by simp [go_sem], by simp [go_sem], by simp [go_sem], fun i => by simp [go_sem], ?_, by omega, by omega, by omega, by omega, by omega, by omega⟩
  exact OwnG.kept (made_own (by omega) hn h1) (((Kept.refl _).alloc _).drew)
theorem begun3 (hn : np < 1099511627776) : Begun w (((w.alloc (.cells (madeCells #[.slice none 0 0] np) 36)).alloc (webV ap np cp ae ne ce mf w.heap.size)).alloc (.cells #[.pointer (some ⟨w.heap.size + 1, 0, none⟩)] 59)).drew (w.heap.size + 1 + 1) (w.heap.size + 1) w.heap.size ap np cp ae ne ce mf := by
  have h1 := heap_alloc_new w (.cells (madeCells #[.slice none 0 0] np) 36)
  refine ⟨(((Kept.refl w).alloc _).alloc _).alloc _ |>.drew, by simp [go_sem], by simp [go_sem], by simp [go_sem], by simp [go_sem], by simp [go_sem], by simp [go_sem], by simp [go_sem], fun i => by simp [go_sem], ?_, by omega, by omega, by omega, by omega, by omega, by omega⟩
  exact OwnG.kept (made_own (Nat.le_refl _) hn h1) ((((Kept.refl _).alloc _).alloc _).drew)
end
theorem cell_new_at (w : World) (cs : Array Value) (t j : Nat) : (w.alloc (.cells cs t)).cell? ⟨w.heap.size, j, none⟩ = cs[j]? := cell_of_row _ _ _ _ _ _ (heap_alloc_new w _)
theorem cell_new_dr (w : World) (cs : Array Value) (t j : Nat) : (w.alloc (.cells cs t)).drew.cell? ⟨w.heap.size, j, none⟩ = cs[j]? := ((Kept.refl _).drew.cells.1 _ j (by simp)).trans (cell_new_at w cs t j)
theorem dartC_even (P : List Pt) (E : List (Nat × Nat)) (k : Nat) : dartC P E (2 * k) = ((P.getD (E.getD k (0, 0)).2 (0, 0)).1 - (P.getD (E.getD k (0, 0)).1 (0, 0)).1, (P.getD (E.getD k (0, 0)).2 (0, 0)).2 - (P.getD (E.getD k (0, 0)).1 (0, 0)).2, ((2 * k : Nat) : Int), (((E.getD k (0, 0)).1 : Nat) : Int), (((E.getD k (0, 0)).2 : Nat) : Int)) := by
  unfold dartC dDir dTail dHead fwd eS
  rw [if_pos (by omega), if_pos (by omega), if_pos (by omega), show 2 * k / 2 = k by omega]
theorem dartC_odd (P : List Pt) (E : List (Nat × Nat)) (k : Nat) : dartC P E (2 * k + 1) = ((P.getD (E.getD k (0, 0)).1 (0, 0)).1 - (P.getD (E.getD k (0, 0)).2 (0, 0)).1, (P.getD (E.getD k (0, 0)).1 (0, 0)).2 - (P.getD (E.getD k (0, 0)).2 (0, 0)).2, ((2 * k + 1 : Nat) : Int), (((E.getD k (0, 0)).2 : Nat) : Int), (((E.getD k (0, 0)).1 : Nat) : Int)) := by
  unfold dartC dDir dTail dHead bwd eS
  rw [if_neg (by omega), if_neg (by omega), if_neg (by omega), show (2 * k + 1) / 2 = k by omega]
theorem Ends.edge {P : List Pt} {E : List (Nat × Nat)} (h : Ends P E) {k : Nat} (hk : k < E.length) : (E.getD k (0, 0)).1 < P.length ∧ (E.getD k (0, 0)).2 < P.length := by
  have := h.tail (2 * k) (by omega)
  unfold dTail dHead at this
  rw [if_pos (by omega), if_pos (by omega), show 2 * k / 2 = k by omega] at this
  exact this
/-- Of edges' fives: the numbers of their points. -/
structure EdgesAre (Ed : List Five) (E : List (Nat × Nat)) : Prop where
  len : Ed.length = E.length
  a : ∀ i (h : i < Ed.length), Ed[i].1 = (((E.getD i (0, 0)).1 : Nat) : Int)
  b : ∀ i (h : i < Ed.length), Ed[i].2.1 = (((E.getD i (0, 0)).2 : Nat) : Int)
theorem dart_two (P : List Pt) (E : List (Nat × Nat)) (k : Nat) : (dartL P E).take (2 * (k + 1)) = if k < E.length then (dartL P E).take (2 * k) ++ [dartC P E (2 * k), dartC P E (2 * k + 1)] else (dartL P E).take (2 * k) := by
  unfold dartL
  split
  · rename_i h
    rw [show 2 * (k + 1) = 2 * k + 1 + 1 by omega, List.take_succ_eq_append_getElem (by simp; omega), List.take_succ_eq_append_getElem (by simp; omega), List.append_assoc]
    simp
  · rename_i h
    rw [List.take_of_length_le (by simp; omega), List.take_of_length_le (by simp; omega)]
/-- The darts before number j that lead from a point. -/
def tailsTo (E : List (Nat × Nat)) (j p : Nat) : List Int := natL ((List.range j).filter fun d => dTail E d == p)
theorem tailsTo_succ (E : List (Nat × Nat)) (j p : Nat) : tailsTo E (j + 1) p = if dTail E j = p then tailsTo E j p ++ [(j : Int)] else tailsTo E j p := by
  unfold tailsTo natL
  rw [List.range_succ, List.filter_append, List.map_append]
  by_cases h : dTail E j = p
  · rw [if_pos h, List.filter_cons_of_pos (by simpa using h)]
    simp
  · rw [if_neg h, List.filter_cons_of_neg (by simpa using h)]
    simp
def rowAt (rows : List Value) (p : Nat) : Value := rows.getD p (.slice none 0 0)
/-- The rows of the darts about the points, each of its own. -/
structure Rows (w X : World) (cw g o np : Nat) (va : Value) (rows : List Value) (L : Nat → List Int) : Prop where
  len : rows.length = np
  own : ∀ p, p < np → OwnN X w.heap.size (rowAt rows p) (L p)
  apart : ∀ p q b, p < np → q < np → (rowAt rows p).ownBlock = some b → (rowAt rows q).ownBlock = some b → p = q
  off : ∀ p b, p < np → (rowAt rows p).ownBlock = some b → b ≠ cw ∧ b ≠ g ∧ b ≠ o ∧ va.ownBlock ≠ some b
theorem rowAt_rep (n p : Nat) : rowAt (List.replicate n (.slice none 0 0)) p = .slice none 0 0 := by
  unfold rowAt
  rw [List.getD_eq_getElem?_getD, List.getElem?_replicate]
  split <;> rfl
theorem Rows.start (w X : World) (cw g o np : Nat) (va : Value) (E : List (Nat × Nat)) : Rows w X cw g o np va (List.replicate np (.slice none 0 0)) (tailsTo E 0) :=
  ⟨by simp, fun p _ => by rw [rowAt_rep]; exact OwnG.nil _ _ _ _ _, fun p q b _ _ h => (by rw [rowAt_rep] at h; cases h), fun p b _ h => (by rw [rowAt_rep] at h; cases h)⟩
theorem Rows.to {w X Y : World} {cw g o np : Nat} {va : Value} {rows : List Value} {L : Nat → List Int} (h : Rows w X cw g o np va rows L) (hk : Kept X Y) : Rows w Y cw g o np va rows L :=
  ⟨h.len, fun p hp => OwnG.kept (h.own p hp) hk, h.apart, h.off⟩
theorem rowAt_set {rows : List Value} {p : Nat} (hp : p < rows.length) (u : Value) (q : Nat) : rowAt (rows.set p u) q = if q = p then u else rowAt rows q := by
  unfold rowAt
  by_cases e : q = p
  · subst e
    rw [if_pos rfl, List.getD_eq_getElem?_getD, List.getElem?_set_self hp]
    rfl
  · rw [if_neg e, List.getD_eq_getElem?_getD, List.getElem?_set_ne (Ne.symm e), List.getD_eq_getElem?_getD]
/-- One row has grown, and is put. -/
theorem Rows.put {w X Y : World} {cw g o np : Nat} {va : Value} {rows : List Value} {L L' : Nat → List Int} (h : Rows w X cw g o np va rows L) {p : Nat} (hp : p < np) {u : Value} (hg : X.grownBy Y (rowAt rows p).ownBlock) (hu : OwnN Y w.heap.size u (L' p)) (hL : ∀ q, q ≠ p → L' q = L q)
    (hb : ∀ b, u.ownBlock = some b → (rowAt rows p).ownBlock = some b ∨ X.heap.size ≤ b) (hlo : cw < X.heap.size ∧ g < X.heap.size ∧ o < X.heap.size ∧ ∀ b, va.ownBlock = some b → b < X.heap.size) :
    Rows w (Y.setCell ⟨o, p, none⟩ u) cw g o np va (rows.set p u) L' := by
  have hs := rowAt_set (rows := rows) (p := p) (by rw [h.len]; exact hp) u
  have hoff : ∀ b, u.ownBlock = some b → b ≠ cw ∧ b ≠ g ∧ b ≠ o ∧ va.ownBlock ≠ some b := fun b e => by
    rcases hb b e with c | c
    · exact h.off p b hp c
    · refine ⟨by omega, by omega, by omega, fun k => ?_⟩
      have := hlo.2.2.2 b k
      omega
  refine ⟨by rw [List.length_set, h.len], fun q hq => ?_, fun q r b hq hr e1 e2 => ?_, fun q b hq e => ?_⟩
  · rw [hs]
    by_cases c : q = p
    · subst c
      rw [if_pos rfl]
      exact OwnG.setNe hu (fun e => (hoff _ e).2.2.1 rfl) _
    · rw [if_neg c, hL q c]
      refine OwnG.setNe (OwnG.grownNe (h.own q hq) hg fun k e1 e2 => c (h.apart q p k hq hp e1 e2.symm)) (fun e => (h.off q _ hq e).2.2.1 rfl) _
  · rw [hs] at e1 e2
    by_cases c : q = p <;> by_cases d : r = p
    · omega
    · rw [if_pos c] at e1
      rw [if_neg d] at e2
      have := ((h.own r hr).lt b e2).2
      rcases hb b e1 with k | k
      · exact absurd (h.apart r p b hr hp e2 k) d
      · omega
    · rw [if_neg c] at e1
      rw [if_pos d] at e2
      have := ((h.own q hq).lt b e1).2
      rcases hb b e2 with k | k
      · exact absurd (h.apart q p b hq hp e1 k) c
      · omega
    · rw [if_neg c] at e1
      rw [if_neg d] at e2
      exact h.apart q r b hq hr e1 e2
  · rw [hs] at e
    by_cases c : q = p
    · rw [if_pos c] at e
      exact hoff b e
    · rw [if_neg c] at e
      exact h.off q b hq e
/-- One row has been sorted in its place. -/
theorem Rows.sort {w X Y : World} {cw g o np : Nat} {va : Value} {rows : List Value} {L L' : Nat → List Int} (h : Rows w X cw g o np va rows L) {p : Nat} (hp : p < np) (hg : X.grownBy Y (rowAt rows p).ownBlock) (hu : OwnN Y w.heap.size (rowAt rows p) (L' p)) (hL : ∀ q, q ≠ p → L' q = L q) : Rows w Y cw g o np va rows L' := by
  refine ⟨h.len, fun q hq => ?_, h.apart, h.off⟩
  by_cases c : q = p
  · subst c; exact hu
  · rw [hL q c]
    exact OwnG.grownNe (h.own q hq) hg fun k e1 e2 => c (h.apart q p k hq hp e1 e2.symm)
def DartAt (E : List (Nat × Nat)) (i : Nat) (x : Int) : Prop := ∃ d : Nat, x = d ∧ d < 2 * E.length ∧ dTail E d = i
theorem angD_lt (P : List Pt) (E : List (Nat × Nat)) (a b : Nat) : angD P E a b < 0 ↔ angLt (dDir (eS P E) a) (dDir (eS P E) b) := by
  unfold angD
  rw [angZ_lt]
  simp
theorem angD_lin {P : List Pt} {E : List (Nat × Nat)} (h : Laid P E) (i : Nat) : Lin (DartAt E i) fun x y => angD P E x y < 0 := by
  have hl := h.lin i
  refine ⟨fun x y hx hy k => ?_, fun x y z hx hy hz k1 k2 => ?_, fun x y hx hy hn => ?_⟩
  · obtain ⟨a, rfl, ha⟩ := hx
    obtain ⟨b, rfl, hb⟩ := hy
    rw [angD_lt] at k ⊢
    exact ang_asymm k
  · obtain ⟨a, rfl, ha⟩ := hx
    obtain ⟨b, rfl, hb⟩ := hy
    obtain ⟨c, rfl, hc⟩ := hz
    rw [angD_lt] at k1 k2 ⊢
    exact ang_trans k1 k2
  · obtain ⟨a, rfl, ha⟩ := hx
    obtain ⟨b, rfl, hb⟩ := hy
    have := hl.tri a b ha hb (fun e => hn (by rw [e]))
    unfold angB at this
    rw [decide_eq_true_eq, decide_eq_true_eq] at this
    rw [angD_lt, angD_lt]
    exact this
theorem sorted_out {P : List Pt} {E : List (Nat × Nat)} (h : Laid P E) {i : Nat} {l : List Int} (hp : l.Perm (tailsTo E (2 * E.length) i)) (hs : Srt (fun x y => angD P E x y < 0) l 0 l.length) : l = natL (outF P E i) := by
  have hperm : (l.map Int.toNat).Perm ((List.range (2 * E.length)).filter fun d => dTail E d == i) := by
    have := hp.map Int.toNat
    unfold tailsTo natL at this
    rw [List.map_map] at this
    have e : (Int.toNat ∘ fun x : Nat => (x : Int)) = id := by funext x; simp
    rw [e, List.map_id] at this
    exact this
  have hl : l = natL (l.map Int.toNat) := by
    unfold natL
    rw [List.map_map]
    conv => lhs; rw [← List.map_id l]
    refine List.map_congr_left fun x hx => ?_
    have hm := hp.mem_iff.1 hx
    unfold tailsTo natL at hm
    obtain ⟨d, -, rfl⟩ := List.mem_map.1 hm
    simp
  have hr : Rise (angB P E) (l.map Int.toNat) := by
    unfold Rise
    rw [List.pairwise_iff_getElem]
    intro a b ha hb hab
    rw [List.length_map] at ha hb
    have := hs a b (Nat.zero_le _) hab hb
    rw [gt_eq ha, gt_eq hb] at this
    have ea : l[a] = (((l.map Int.toNat)[a]'(by simpa using ha) : Nat) : Int) := by
      have hm := hp.mem_iff.1 (List.getElem_mem ha)
      unfold tailsTo natL at hm
      obtain ⟨d, -, e⟩ := List.mem_map.1 hm
      rw [List.getElem_map, ← e]
      simp
    have eb : l[b] = (((l.map Int.toNat)[b]'(by simpa using hb) : Nat) : Int) := by
      have hm := hp.mem_iff.1 (List.getElem_mem hb)
      unfold tailsTo natL at hm
      obtain ⟨d, -, e⟩ := List.mem_map.1 hm
      rw [List.getElem_map, ← e]
      simp
    rw [ea, eb] at this
    have t : ¬ angD P E _ _ < 0 := this
    rw [angD_lt] at t
    unfold angB
    rw [decide_eq_false_iff_not]
    exact t
  have := isort_uni (h.lin i) (l := (List.range (2 * E.length)).filter fun d => dTail E d == i) (fun y hy => by
    rw [List.mem_filter, List.mem_range] at hy
    exact ⟨hy.1, by simpa using hy.2⟩) hperm hr
  rw [hl, this]
  rfl
theorem spread_cmp {w X : World} {cw g o : Nat} {ap : Option Addr} {np cp : Nat} {ae : Option Addr} {ne ce : Nat} {mf : Int} {aa : Option Addr} {N ca : Nat} {rows : List Value} {P : List Pt} {E : List (Nat × Nat)} (h : Sp w X cw g o ap np cp ae ne ce mf (.slice aa N ca) rows) (hd : OwnD X w.heap.size (.slice aa N ca) (dartL P E))
    (hN : 2 * E.length = N) (he : Ends P E) (hok : ∀ x ∈ P, okB x = true) (i gr : Nat) (h1 : gr ≠ cw) (h2 : gr ≠ g) (h3 : (Value.slice aa N ca).ownBlock ≠ some gr) : CmpOk 82 #[.pointer (some ⟨cw, 0, none⟩)] (fun x : Int => Value.int .i64 x) (DartAt E i) (angD P E) X gr := by
  refine ⟨fun x y W hx hy hg => ?_, fun args W => rfl⟩
  obtain ⟨a, rfl, ha, -⟩ := hx
  obtain ⟨b, rfl, hb, -⟩ := hy
  have hd2 := OwnG.grownNe hd hg (fun k e1 e2 => h3 (e1.trans e2))
  obtain ⟨a2, c2, e, hf, -⟩ := OwnG.fives hd2
  simp only [Value.slice.injEq] at e
  obtain ⟨rfl, -, -⟩ := e
  obtain ⟨B, off, rfl, -⟩ := hf a (by rw [dartL_len]; exact ha)
  refine spread1_any cw g a b P E W ⟨grown_cell hg h.c (fun e => h1 (Option.some.inj e).symm), B, off, ca, ?_, hf⟩ he hok ha hb
  rw [hN]
  exact grown_cell hg h.g3 (fun e => h2 (Option.some.inj e).symm)

/-- What spread hands back. -/
def SpreadPost (P : List Pt) (E : List (Nat × Nat)) (ap : Option Addr) (np cp : Nat) (ae : Option Addr) (ne ce : Nat) (mf : Int) (w : World) (e : Ending) (w' : World) : Prop :=
  ∃ g, e = .returned (.pointer (some ⟨g, 0, none⟩)) ∧ w.heap.size ≤ g ∧ WebC w' g P E ∧ w'.cell? ⟨g, 0, none⟩ = some (.slice ap np cp) ∧ w'.cell? ⟨g, 1, none⟩ = some (.slice ae ne ce) ∧ w'.cell? ⟨g, 2, none⟩ = some (.int .i64 mf) ∧ w'.cell? ⟨g, 5, none⟩ = some (.slice none 0 0) ∧ (∀ i, w'.frozen? ⟨g, i, none⟩ = false) ∧ Kept w w'
theorem spread_web {w X : World} {cw g o : Nat} {ap : Option Addr} {np cp : Nat} {ae : Option Addr} {ne ce : Nat} {mf : Int} {aa : Option Addr} {N ca : Nat} {rows : List Value} {P : List Pt} {E : List (Nat × Nat)} (h : Sp w X cw g o ap np cp ae ne ce mf (.slice aa N ca) rows) (hd : OwnD X w.heap.size (.slice aa N ca) (dartL P E))
    (hr : Rows w X cw g o np (.slice aa N ca) rows (fun p => if p < np then natL (outF P E p) else tailsTo E N p)) (hN : 2 * E.length = N) (hnp : P.length = np) (hP : Pairs X ap P) (hoff : Off g ap) (hng : (Value.slice aa N ca).ownBlock ≠ some g) : WebC X g P E := by
  refine ⟨⟨ap, cp, by rw [hnp]; exact h.g0, hP, hoff⟩, ?_, ⟨some ⟨o, 0, none⟩, np, by rw [hnp]; exact h.g4, ⟨fun x e => by cases e; exact fun k => h.n3 k.symm, fun i hi => ?_⟩⟩⟩
  · obtain ⟨a2, c2, e, hf, -⟩ := OwnG.fives hd
    simp only [Value.slice.injEq] at e
    obtain ⟨rfl, -, -⟩ := e
    exact ⟨aa, ca, by rw [hN]; exact h.g3, hf, fun x e k => hng (by rw [e, ← k]; rfl)⟩
  · have hin : i < np := by rw [outL_len, hnp] at hi; exact hi
    have ho := hr.own i hin
    rw [if_pos hin] at ho
    obtain ⟨a, c, e, hii, -⟩ := OwnG.ints ho
    have hc := atV h.own (k := i) (by rw [hr.len]; exact hin)
    have hrp : rows[i]'(by rw [hr.len]; exact hin) = rowAt rows i := by unfold rowAt; rw [List.getD_eq_getElem?_getD, List.getElem?_eq_getElem (by rw [hr.len]; exact hin)]; rfl
    rw [hrp, e] at hc
    have hget : (outL P E)[i] = natL (outF P E i) := by simp only [outL, List.getElem_map, List.getElem_range]
    rw [hget]
    refine ⟨o, 0, rfl, a, c, by rw [Nat.zero_add]; exact hc, hii, fun x hx k => ?_⟩
    have := (hr.off i g hin (by rw [e, hx, ← k]; rfl)).2.1
    exact this rfl
set_option maxHeartbeats 2000000 in
theorem spread_any (P : List Pt) (E : List (Nat × Nat)) (Ed : List Five) (ap : Option Addr) (np cp : Nat) (ae : Option Addr) (ne ce : Nat) (mf : Int) (w : World) (hn : np < 1099511627776) (hnp : P.length = np) (hne : Ed.length = ne) (hP : Pairs w ap P) (hE : Fives w ae Ed) (hEd : EdgesAre Ed E) (he : Ends P E) (hok : ∀ x ∈ P, okB x = true) (hl : Laid P E) (hoff : ∀ x, ap = some x → x.block < w.heap.size) : Calls Tryz.prog 58 #[mapV ap np cp ae ne ce mf] w (SpreadPost P E ap np cp ae ne ce mf w) := by
  have HOFF := Lib.hid hoff
  clear hoff
  have HNP := Lib.hid hnp
  have HNE := Lib.hid hne
  have HP := Lib.hid hP
  have HED := Lib.hid hE
  have HEA := Lib.hid hEd
  have HE := Lib.hid he
  have HOK := Lib.hid hok
  have HLD := Lib.hid hl
  have hne4 : ne ≤ 400 := by rw [← hne, hEd.len]; exact he.few
  clear hnp hne hP hE hEd he hok hl
  have HN := Lib.hid hn
  obtain ⟨w0, hw0⟩ : ∃ w0, w.alloc (.cells #[.slice ap np cp, .slice ae ne ce, .int .i64 mf] 29) = w0 := ⟨_, rfl⟩
  obtain ⟨b, hb⟩ : ∃ b, w.heap.size = b := ⟨_, rfl⟩
  have m0 : w0.cell? ⟨b, 0, none⟩ = some (.slice ap np cp) := by rw [← hw0, ← hb]; simp [go_sem]
  have m1 : w0.cell? ⟨b, 1, none⟩ = some (.slice ae ne ce) := by rw [← hw0, ← hb]; simp [go_sem]
  have m2 : w0.cell? ⟨b, 2, none⟩ = some (.int .i64 mf) := by rw [← hw0, ← hb]; simp [go_sem]
  go_enter Tryz.func58, Tryz.ntmps58
  go_upto_region 1 with fail
  go_cut [3] (fun s3 wx => ∃ cw g o, s3 = .pointer (some ⟨cw, 0, none⟩) ∧ Begun w0 wx cw g o ap np cp ae ne ce mf)
  case first =>
    have hmk := fun W => run_make_row' (P := Tryz.prog) 91 36 _ 24 Tryz.underlying91 info36 rfl .i64 .i64 np (by have := HN.out; omega) (by have := HN.out; omega) W
    have hb1 := lt_of_cell m0
    have HB1 := Lib.hid (begun1 w0 ap np cp ae ne ce mf HN.out)
    have HB2 := Lib.hid (begun2 w0 ap np cp ae ne ce mf HN.out)
    have HB3 := Lib.hid (begun3 w0 ap np cp ae ne ce mf HN.out)
    go_region
    all_goals
      go_wp2
      go_meet
      first
        | exact ⟨_, _, _, rfl, HB1.out⟩
        | exact ⟨_, _, _, rfl, HB2.out⟩
        | exact ⟨_, _, _, rfl, HB3.out⟩
  case rest =>
    obtain ⟨cw, g, o, rfl, hb⟩ := hcut
    have HK0 : Hid (Kept w w0) := Lib.hid (by rw [← hw0]; exact (Kept.refl w).alloc _)
    have HM0' := Lib.hid m0
    have HM0 := Lib.hid (hb.kept.cell m0)
    have HM1 := Lib.hid (hb.kept.cell m1)
    have m1 := HM1.out
    have hlb := lt_of_cell m1
    have HB := Lib.hid hb
    clear hb hw0 m0 m2
    go_wp2
    go_loopw [22] (fun iv wr => ∃ k : Nat, k ≤ ne ∧ iv = .int .i64 k ∧ ∃ va, Sp w0 wr cw g o ap np cp ae ne ce mf va (List.replicate np (.slice none 0 0)) ∧ OwnD wr w0.heap.size va ((dartL P E).take (2 * k)) ∧ ∀ r, va.ownBlock = some r → r ≠ cw ∧ r ≠ g ∧ r ≠ o) (fun iv _ => ne - (intOf iv).toNat)
    case atStart => exact ⟨0, Nat.zero_le _, rfl, _, HB.out, OwnG.nil _ _ _ _ _, fun r e => by cases e⟩
    case round =>
      obtain ⟨k, hk, rfl, va, hsp, hod, hr⟩ := hrel
      have HSP := Lib.hid hsp
      have HOD := Lib.hid hod
      have HR := Lib.hid hr
      clear hsp hod hr
      by_cases hlt : k < ne
      · have HKL : Hid (0 < E.length - k) := Lib.hid (by have := HEA.out.len; have := HNE.out; omega)
        have HKL2 : Hid (0 < Ed.length - k) := Lib.hid (by have := HNE.out; omega)
        have hab := HE.out.edge (k := k) (by have := HKL.out; omega)
        have hxa := HEA.out.a k (by have := HKL2.out; omega)
        have hxb := HEA.out.b k (by have := HKL2.out; omega)
        obtain ⟨B, off, rfl, c0, c1, c2, c3, c4⟩ := (HED.out.kept (HK0.out.trans HSP.out.kept)) k (by have := HKL2.out; omega)
        have HD2 := Lib.hid (dart_two P E k)
        have HDE := Lib.hid (dartC_even P E k)
        have HDO := Lib.hid (dartC_odd P E k)
        generalize Ed[k]'(by have := HKL2.out; omega) = x at hxa hxb c0 c1 c2 c3 c4
        obtain ⟨x1, x2, x3, x4, x5⟩ := x
        simp only [] at hxa hxb c0 c1 c2 c3 c4
        generalize (E.getD k (0, 0)).1 = ia at hxa hab HDE HDO
        generalize (E.getD k (0, 0)).2 = ib at hxb hab HDE HDO
        obtain ⟨hia, hib⟩ := hab
        rw [HNP.out] at hia hib
        obtain ⟨B2, off2, e2, p0, p1⟩ := (HP.out.kept (HK0.out.trans HSP.out.kept)) ia (by rw [HNP.out]; exact hia)
        obtain ⟨B3, off3, e3, q0, q1⟩ := (HP.out.kept (HK0.out.trans HSP.out.kept)) ib (by rw [HNP.out]; exact hib)
        subst e2
        cases e3
        have hpa : P[ia]'(by rw [HNP.out]; exact hia) = P.getD ia (0, 0) := by rw [List.getD_eq_getElem?_getD, List.getElem?_eq_getElem (by rw [HNP.out]; exact hia)]; rfl
        have hpb : P[ib]'(by rw [HNP.out]; exact hib) = P.getD ib (0, 0) := by rw [List.getD_eq_getElem?_getD, List.getElem?_eq_getElem (by rw [HNP.out]; exact hib)]; rfl
        rw [hpa] at p0 p1
        rw [hpb] at q0 q1
        have oa := (okB_iff _).1 (HOK.out _ (getD_mem (0, 0) (show ia < P.length by rw [HNP.out]; exact hia)))
        have ob := (okB_iff _).1 (HOK.out _ (getD_mem (0, 0) (show ib < P.length by rw [HNP.out]; exact hib)))
        clear hpa hpb
        generalize P.getD ia (0, 0) = pa at p0 p1 oa HDE HDO
        generalize P.getD ib (0, 0) = pb at q0 q1 ob HDE HDO
        subst hxa hxb
        obtain ⟨y1, z1, k1, e1, e2, hg1, hb1, hf1, hk2, hb2, hz1⟩ := new_five 87 wr ((ia : Int), (ib : Int), x3, x4, x5)
        have m0 := hk2.cell (HSP.out.kept.cell HM0'.out)
        have m1 := HM1.out
        have HSP1 := Lib.hid (HSP.out.to hk2)
        have HOD1 := Lib.hid (OwnG.kept HOD.out hk2)
        have HBX := Lib.hid hb2
        have p0 := hk2.cell p0
        have p1 := hk2.cell p1
        have q0 := hk2.cell q0
        have q1 := hk2.cell q1
        clear hk2
        obtain ⟨a0, a1, a2, a3, a4⟩ := hb1
        obtain ⟨r0, r1, r2, r3, r4⟩ := hb2
        simp only [] at r0 r1 r2 r3 r4 e2
        go_upto_region 5 with fail
        clear e1 e2 a0 a1 a2 a3 a4 c0 c1 c2 c3 c4 r2 r3 r4 hf1 m1
        have hl1 := lt_of_cell m0
        have hl2 := lt_of_cell p0
        have hl3 := lt_of_cell r0
        go_cut [6, 7] (fun s6 s7 wx => ∃ (u v : Nat), s6 = .pointer (some ⟨u, 0, none⟩) ∧ s7 = .pointer (some ⟨v, 0, none⟩) ∧ PtsAt z1 pa pb u v wx)
        case first =>
          have hAB := pts_ab z1 pa pb
          have hBA := pts_ba z1 pa pb
          obtain ⟨z, hz⟩ : ∃ z, z1.heap.size = z := ⟨_, rfl⟩
          rw [hz] at hAB hBA hl1 hl2 hl3
          have HAB := Lib.hid hAB
          have HBA := Lib.hid hBA
          have n1 : ¬ b = z := by omega
          have n2 : ¬ z = b := by omega
          have n3 : ¬ b = z + 1 := by omega
          have n4 : ¬ z + 1 = b := by omega
          have n5 : ¬ B2 = z := by omega
          have n6 : ¬ z = B2 := by omega
          have n7 : ¬ B2 = z + 1 := by omega
          have n8 : ¬ z + 1 = B2 := by omega
          have n9 : ¬ k1 = z := by omega
          have n10 : ¬ z = k1 := by omega
          have n11 : ¬ k1 = z + 1 := by omega
          have n12 : ¬ z + 1 = k1 := by omega
          clear hAB hBA hz1 hg1
          go_region_held3 (fun X => X.cell? ⟨b, 0, none⟩ = some (.slice (some ⟨B2, off2, none⟩) np cp) ∧ X.cell? ⟨k1, 0, none⟩ = some (.int .i64 ia) ∧ X.cell? ⟨k1, 1, none⟩ = some (.int .i64 ib) ∧ X.cell? ⟨B2, off2 + ia * 2, none⟩ = some (.int .i64 pa.1) ∧ X.cell? ⟨B2, off2 + ia * 2 + 1, none⟩ = some (.int .i64 pa.2) ∧ X.cell? ⟨B2, off2 + ib * 2, none⟩ = some (.int .i64 pb.1) ∧ X.cell? ⟨B2, off2 + ib * 2 + 1, none⟩ = some (.int .i64 pb.2)) (go_keep) (fail)
          all_goals
            go_wp2
            go_meet
            first
              | exact ⟨_, _, rfl, rfl, HAB.out⟩
              | exact ⟨_, _, rfl, rfl, HBA.out⟩
        case rest =>
          clear m0 p0 p1 q0 q1 r0 r1
          obtain ⟨u, v, rfl, rfl, hpt⟩ := hcut
          have HUV0 : Hid (wr.heap.size ≤ k1 ∧ k1 < u ∧ k1 < v ∧ g < k1) := Lib.hid (by have h1 := hpt.hx; have h2 := hpt.hy; have := lt_of_cell HSP.out.g0; omega)
          have HSP2 := Lib.hid (HSP1.out.to hpt.kept)
          have HOD2 := Lib.hid (OwnG.kept HOD1.out hpt.kept)
          have HBX2 := Lib.hid (HBX.out.kept hpt.kept)
          obtain ⟨f0, f1⟩ := hpt.bx
          obtain ⟨f2, f3⟩ := hpt.by_
          obtain ⟨f4, f5, -, -, -⟩ := HBX2.out
          simp only [] at f4 f5
          have s1 := HSP2.out.c
          have s2 := HSP2.out.g3
          have s3 := HSP2.out.fg 3
          have hl4 := lt_of_cell s1
          have hl5 := lt_of_cell s2
          have hl6 := lt_of_cell f4
          have hl7 := lt_of_cell f0
          have hl8 := lt_of_cell f2
          clear hpt hl1 hl2 hl3
          have w1 : IntKind.i64.wrap (2 * (k : Int)) = 2 * (k : Int) := IntWalk.i64_in _ (by omega)
          have w2 : IntKind.i64.wrap (2 * (k : Int) + 1) = 2 * (k : Int) + 1 := IntWalk.i64_in _ (by omega)
          obtain ⟨x1, y1⟩ := pa
          obtain ⟨x2, y2⟩ := pb
          simp only [] at f0 f1 f2 f3 oa ob HDE HDO
          have w3 : IntKind.i64.wrap (x2 - x1) = x2 - x1 := IntWalk.i64_in _ (by omega)
          have w4 : IntKind.i64.wrap (y2 - y1) = y2 - y1 := IntWalk.i64_in _ (by omega)
          have w5 : IntKind.i64.wrap (x1 - x2) = x1 - x2 := IntWalk.i64_in _ (by omega)
          have w6 : IntKind.i64.wrap (y1 - y2) = y1 - y2 := IntWalk.i64_in _ (by omega)
          have HYS : Hid ((dartL P E).take (2 * (k + 1)) = (dartL P E).take (2 * k) ++ [(x2 - x1, y2 - y1, 2 * (k : Int), (ia : Int), (ib : Int)), (x1 - x2, y1 - y2, 2 * (k : Int) + 1, (ib : Int), (ia : Int))]) := Lib.hid (by
            rw [HD2.out, if_pos (by have := HKL.out; omega), HDE.out, HDO.out]
            congr 1)
          have HLEN : Hid (((dartL P E).take (2 * k)).length = 2 * k) := Lib.hid (by rw [List.length_take, dartL_len]; have := HKL.out; omega)
          generalize (dartL P E).take (2 * k) = L0 at *
          obtain ⟨L1, hL1⟩ : ∃ L1, (dartL P E).take (2 * (k + 1)) = L1 := ⟨_, rfl⟩
          rw [hL1] at HYS
          have HL1 := Lib.hid hL1
          clear hL1
          have HLW : Hid (cw < wc.heap.size ∧ g < wc.heap.size ∧ o < wc.heap.size) := Lib.hid (by have := lt_of_cell s1; have := lt_of_cell s2; have := HSP2.out.own.parts; obtain ⟨cur, -, -, hh, -⟩ := this; have := (Array.getElem?_eq_some_iff.1 hh).1; omega)
          have HSZ : Hid (w0.heap.size ≤ wc.heap.size) := Lib.hid HSP2.out.kept.size
          have HUV : Hid (wr.heap.size ≤ k1 ∧ k1 < u ∧ k1 < v ∧ g < k1) := HUV0
          have HUN : Hid (∀ j, va.ownBlock = some j → j ≠ u ∧ j ≠ v ∧ j ≠ k1) := Lib.hid (fun j e => by have := (HOD.out.lt j e).2; have := HUV.out; omega)
          have HVB : Hid (∀ j, va.ownBlock = some j → w0.heap.size ≤ j ∧ j < wc.heap.size) := Lib.hid (fun j e => HOD2.out.lt j e)
          go_wp2
          refine region_late (fun X => X.cell? ⟨cw, 0, none⟩ = some (.pointer (some ⟨g, 0, none⟩)) ∧ X.cell? ⟨g, 3, none⟩ = some va ∧ X.cell? ⟨u, 0, none⟩ = some (.int .i64 x1) ∧ X.cell? ⟨u, 1, none⟩ = some (.int .i64 y1) ∧ X.cell? ⟨v, 0, none⟩ = some (.int .i64 x2) ∧ X.cell? ⟨v, 1, none⟩ = some (.int .i64 y2) ∧ X.cell? ⟨k1, 0, none⟩ = some (.int .i64 ia) ∧ X.cell? ⟨k1, 1, none⟩ = some (.int .i64 ib)) 42 44 (by kernel_rfl) (by kernel_rfl) (by decide) (by kernel_rfl) (by kernel_rfl) ⟨s1, s2, f0, f1, f2, f3, f4, f5⟩ ?_
          simp only [List.take_succ_cons, List.take_zero, List.drop_succ_cons, List.drop_zero]
          iterate 42 refine wpHeld_step _ (by rfl) (fun X hX => by (obtain ⟨h0, h1, h2, h3, h4, h5, h6, h7⟩ := hX; go_simp; rfl)) ?_
          refine wpHeld_nil ?_
          have hk7 : Kept wc.drew (wc.drew.alloc (.cells #[.int .i64 (x2 - x1), .int .i64 (y2 - y1), .int .i64 (2 * (k : Int)), .int .i64 ia, .int .i64 ib, .int .i64 (x1 - x2), .int .i64 (y1 - y2), .int .i64 (2 * (k : Int) + 1), .int .i64 ib, .int .i64 ia] 101)) := (Kept.refl _).alloc _
          have hk8 := (Kept.refl wc).drew.trans hk7
          refine wpLate_step fun K' hK => ?_
          go_simp
          refine hK _ _ (fun _ => ⟨hk8.cell s1, hk8.cell s2, hk8.cell f0, hk8.cell f1, hk8.cell f2, hk8.cell f3, hk8.cell f4, hk8.cell f5⟩) ?_
          clear hK K'
          refine wpLate_step fun K' hK => ?_
          refine step_many Tryz.underlying90 info101 rfl (by decide) (by decide) fiveC_len fiveC_one rfl (.tmp 43) (.tmp 81) rfl w0.heap.size va L0 (HOD2.out.kept hk8) (by simp [Act.eval]) wc.heap.size 0 2 2 [(x2 - x1, y2 - y1, 2 * (k : Int), (ia : Int), (ib : Int)), (x1 - x2, y1 - y2, 2 * (k : Int) + 1, (ib : Int), (ia : Int))] rfl (by simp [Act.eval]) (fun j u hu => by rw [Nat.zero_add]; exact (cell_new_at wc.drew _ 101 j).trans (by simpa [fiveC] using hu)) (by have := HLEN.out; omega) (by have := HSZ.out; simp; omega) ?_
          intro ra rc w8 ho8 hg8 hl8
          have HO8 := Lib.hid ho8
          have HL8 := Lib.hid hl8
          have HSP8 : Hid (Sp w0 w8 cw g o (some ⟨B2, off2, none⟩) np cp (some ⟨B, off, none⟩) ne ce mf va (List.replicate np (.slice none 0 0))) := Lib.hid ((HSP2.out.to hk8).grown hg8 (fun r e => ⟨(HVB.out r e).1, HR.out r e⟩))
          have z0 := HSP8.out.c
          have z1 := HSP8.out.g3
          have z2 := HSP8.out.fg 3
          refine hK _ _ (fun _ => ⟨z0, z1, grown_cell hg8 (hk8.cell f0) (fun e => (HUN.out _ e.symm).1 rfl), grown_cell hg8 (hk8.cell f1) (fun e => (HUN.out _ e.symm).1 rfl), grown_cell hg8 (hk8.cell f2) (fun e => (HUN.out _ e.symm).2.1 rfl), grown_cell hg8 (hk8.cell f3) (fun e => (HUN.out _ e.symm).2.1 rfl), grown_cell hg8 (hk8.cell f4) (fun e => (HUN.out _ e.symm).2.2 rfl), grown_cell hg8 (hk8.cell f5) (fun e => (HUN.out _ e.symm).2.2 rfl)⟩) ?_
          clear hK K' ho8 hg8 hl8 hk8 hk7 s1 s2 s3 f0 f1 f2 f3 f4 f5
          have hl9 := lt_of_cell z1
          refine wpLate_step fun K' hK => ?_
          go_simp
          refine hK _ _ (fun h => absurd h (by decide)) ?_
          clear hK K'
          refine wpLate_step fun K' hK => ?_
          go_simp
          refine hK _ _ (fun h => absurd h (by decide)) ?_
          clear hK K'
          refine wpLate_step fun K' hK => ?_
          go_simp
          refine hK _ _ (fun h => absurd h (by decide)) ?_
          clear hK K'
          refine wpLate_nil ?_
          have HSP9 := Lib.hid (HSP8.out.put (.slice ra (L0.length + 2) rc))
          have hng : (Value.slice ra (L0.length + 2) rc).ownBlock ≠ some g := fun e => by
            rcases HL8.out g e with c | c
            · exact (HR.out g c).2.1 rfl
            · have := HUV.out; have := HLW.out; simp at c; omega
          have HO9 : Hid (OwnD (w8.setCell ⟨g, 3, none⟩ (.slice ra (L0.length + 2) rc)) w0.heap.size (.slice ra (L0.length + 2) rc) L1) := Lib.hid (by rw [HYS.out]; exact OwnG.setNe HO8.out hng _)
          have HR9 : Hid (∀ r, (Value.slice ra (L0.length + 2) rc).ownBlock = some r → r ≠ cw ∧ r ≠ g ∧ r ≠ o) := Lib.hid (fun r e => by
            rcases HL8.out r e with c | c
            · exact HR.out r c
            · simp at c
              have := HLW.out
              omega)
          clear hng z0 z1 z2 hl9
          show Exit.inBlock 1 _ .normal _ _
          go_wp2
          go_roundw
          case rel => exact ⟨k + 1, by omega, by go_num, _, HSP9.out, by rw [HL1.out]; exact HO9.out, HR9.out⟩
          case measure => simp [intOf]; omega
      · have hkn : k = ne := by omega
        subst hkn
        obtain ⟨aa, ca, rfl, hfa, hba⟩ := OwnG.fives HOD.out
        have HALL : Hid ((dartL P E).take (2 * k) = dartL P E) := Lib.hid (List.take_of_length_le (by rw [dartL_len]; have := HEA.out.len; have := HNE.out; omega))
        have HLEN : Hid ((dartL P E).length = 2 * E.length) := Lib.hid (dartL_len P E)
        rw [HALL.out] at HOD hfa
        rw [HALL.out, HLEN.out] at HSP HR
        rw [HLEN.out] at HOD
        have HFA := Lib.hid hfa
        have HBA := Lib.hid hba
        have s1 := HSP.out.c
        have s2 := HSP.out.g3
        have hl1 := lt_of_cell s1
        have hl2 := lt_of_cell s2
        obtain ⟨N, hN⟩ : ∃ N, 2 * E.length = N := ⟨_, rfl⟩
        rw [hN] at s2 HSP HOD HR HLEN
        have HNN := Lib.hid hN
        have hn8 : N ≤ 800 := by have := HE.out.few; omega
        clear hfa hba hN m1
        go_wp2
        go_loopw [91] (fun iv wr => ∃ j : Nat, j ≤ N ∧ iv = .int .i64 j ∧ ∃ rows, Sp w0 wr cw g o ap np cp ae k ce mf (.slice aa N ca) rows ∧ OwnD wr w0.heap.size (.slice aa N ca) (dartL P E) ∧ Rows w0 wr cw g o np (.slice aa N ca) rows (tailsTo E j)) (fun iv _ => N - (intOf iv).toNat)
        case atStart => exact ⟨0, Nat.zero_le _, rfl, _, HSP.out, HOD.out, Rows.start _ _ _ _ _ _ _ _⟩
        case round =>
          clear HSP HOD s1 s2 hl1 hl2
          obtain ⟨j, hj, rfl, rows, hsp, hod, hrw⟩ := hrel
          have HSP := Lib.hid hsp
          have HOD := Lib.hid hod
          have HRW := Lib.hid hrw
          clear hsp hod hrw
          by_cases hlt : j < N
          · have hdt := HE.out.tail j (by rw [HNN.out]; exact hlt)
            have hp : dTail E j < np := by rw [← HNP.out]; exact hdt.1
            clear hdt
            obtain ⟨aa', ca', e', hfa, -⟩ := OwnG.fives HOD.out
            simp only [Value.slice.injEq] at e'
            obtain ⟨e1', -, -⟩ := e'
            rw [← e1'] at hfa
            clear e1'
            obtain ⟨B, off, rfl, c0, c1, c2, c3, c4⟩ := hfa j (by rw [HLEN.out]; exact hlt)
            have hdj : (dartL P E)[j]'(by rw [HLEN.out]; exact hlt) = dartC P E j := by unfold dartL; rw [List.getElem_map, List.getElem_range]
            rw [hdj] at c0 c1 c2 c3 c4
            unfold dartC at c0 c1 c2 c3 c4
            simp only [] at c0 c1 c2 c3 c4
            have HTS := Lib.hid (tailsTo_succ E j)
            generalize (dDir (eS P E) j).1 = x1 at c0
            generalize (dDir (eS P E) j).2 = x2 at c1
            generalize dTail E j = p at c3 hp HTS
            generalize dHead E j = q at c4
            clear hdj hfa
            obtain ⟨y1, z1, k1, e1, e2, hg1, hb1, hf1, hk2, hb2, hz1⟩ := new_five 101 wr (x1, x2, (j : Int), (p : Int), (q : Int))
            have HSP1 := Lib.hid (HSP.out.to hk2)
            have HOD1 := Lib.hid (OwnG.kept HOD.out hk2)
            have HRW1 := Lib.hid (HRW.out.to hk2)
            have HBX := Lib.hid hb2
            clear hk2
            obtain ⟨a0, a1, a2, a3, a4⟩ := hb1
            obtain ⟨r0, r1, r2, r3, r4⟩ := hb2
            simp only [] at r0 r1 r2 r3 r4 e2
            go_upto_region 11 with fail
            clear e1 e2 a0 a1 a2 a3 a4 c0 c1 c2 c3 c4 r0 r1 r2 r3 r4 hf1
            obtain ⟨-, -, f2, f3, -⟩ := HBX.out
            simp only [] at f2 f3
            have s1 := HSP1.out.c
            have s2 := HSP1.out.g4
            have s3 := atV HSP1.out.own (k := p) (by rw [HRW1.out.len]; exact hp)
            have s4 := HSP1.out.own.warm p
            have hrp : rows[p]'(by rw [HRW1.out.len]; exact hp) = rowAt rows p := by unfold rowAt; rw [List.getD_eq_getElem?_getD, List.getElem?_eq_getElem (by rw [HRW1.out.len]; exact hp)]; rfl
            rw [hrp] at s3
            have hop := HRW1.out.own p hp
            have HOP := Lib.hid hop
            have HOF := Lib.hid (HRW1.out.off p · hp)
            have hl1 := lt_of_cell s1
            have hl2 := lt_of_cell s2
            have hl3 := lt_of_cell s3
            have hl4 := lt_of_cell f2
            have HKB : Hid (k1 < z1.heap.size ∧ wr.heap.size = k1) := Lib.hid ⟨hl4, hg1⟩
            have HVB : Hid (∀ b, (rowAt rows p).ownBlock = some b → b < k1) := Lib.hid (fun b e => by have := ((HRW.out.own p hp).lt b e).2; omega)
            have HLT : Hid ((tailsTo E j p).length < 1000) := Lib.hid (by
              unfold tailsTo natL
              have h1 := List.length_filter_le (fun d => dTail E d == p) (List.range j)
              rw [List.length_range] at h1
              rw [List.length_map]
              have := HNN.out
              have := HE.out.few
              omega)
            generalize hL0 : tailsTo E j p = L0 at *
            have HL0 := Lib.hid hL0
            generalize hv0 : rowAt rows p = v0 at *
            have HV0 := Lib.hid hv0
            clear hop hrp hL0 hv0
            refine region_late (fun X => X.cell? ⟨cw, 0, none⟩ = some (.pointer (some ⟨g, 0, none⟩)) ∧ X.cell? ⟨g, 4, none⟩ = some (.slice (some ⟨o, 0, none⟩) np np) ∧ X.cell? ⟨o, p, none⟩ = some v0 ∧ X.cell? ⟨k1, 2, none⟩ = some (.int .i64 j) ∧ X.cell? ⟨k1, 3, none⟩ = some (.int .i64 p)) 16 18 (by kernel_rfl) (by kernel_rfl) (by decide) (by kernel_rfl) (by kernel_rfl) ⟨s1, s2, s3, f2, f3⟩ ?_
            simp only [List.take_succ_cons, List.take_zero, List.drop_succ_cons, List.drop_zero]
            iterate 16 refine wpHeld_step _ (by rfl) (fun X hX => by (obtain ⟨h0, h1, h2, h3, h4⟩ := hX; go_simp; rfl)) ?_
            refine wpHeld_nil ?_
            have hk7 : Kept z1.drew (z1.drew.alloc (.cells #[.int .i64 j] 3)) := (Kept.refl _).alloc _
            have hk8 := (Kept.refl z1).drew.trans hk7
            refine wpLate_step fun K' hK => ?_
            go_simp
            refine hK _ _ (fun _ => ⟨hk8.cell s1, hk8.cell s2, hk8.cell s3, hk8.cell f2, hk8.cell f3⟩) ?_
            clear hK K'
            refine wpLate_step fun K' hK => ?_
            refine step_many Tryz.underlying36 info3 rfl (by decide) (by decide) intC_len intC_one rfl (.tmp 108) (.tmp 111) rfl w0.heap.size v0 L0 (HOP.out.kept hk8) (by simp [Act.eval]) z1.heap.size 0 1 1 [(j : Int)] rfl (by simp [Act.eval]) (fun i u hu => by rw [Nat.zero_add]; exact (cell_new_at z1.drew _ 3 i).trans (by simpa [intC] using hu)) (by have := HLT.out; omega) (by have := HSP1.out.kept.size; simp; omega) ?_
            intro ra rc w8 ho8 hg8 hl8
            have HO8 := Lib.hid ho8
            have HL8 := Lib.hid hl8
            have HG8 := Lib.hid hg8
            have HSP8 := Lib.hid ((HSP1.out.to hk8).grown hg8 (fun r e => ⟨(HOP.out.lt r e).1, (HOF.out r e).1, (HOF.out r e).2.1, (HOF.out r e).2.2.1⟩))
            have HRW7 := Lib.hid (HRW1.out.to hk8)
            have HOD8 := Lib.hid (OwnG.grownNe (OwnG.kept HOD1.out hk8) hg8 (fun r e1 e2 => (HOF.out r e2.symm).2.2.2 e1))
            have HK8 := Lib.hid hk8.size
            have z0 := HSP8.out.c
            have z1' := HSP8.out.g4
            have hno : ∀ b, (b = cw ∨ b = g ∨ b = o ∨ b = k1) → some b ≠ v0.ownBlock := fun b hb e => by
              have h1 := HOF.out b e.symm
              have h2 := HVB.out b e.symm
              omega
            have z2 : w8.cell? ⟨o, p, none⟩ = some v0 := grown_cell hg8 (hk8.cell s3) (hno _ (by omega))
            have z3 : w8.cell? ⟨k1, 2, none⟩ = some (.int .i64 j) := grown_cell hg8 (hk8.cell f2) (hno _ (by omega))
            have z4 : w8.cell? ⟨k1, 3, none⟩ = some (.int .i64 p) := grown_cell hg8 (hk8.cell f3) (hno _ (by omega))
            have z5 := HSP8.out.own.warm p
            refine hK _ _ (fun _ => ⟨z0, z1', z2, z3, z4⟩) ?_
            clear hK K' ho8 hg8 hl8 hk8 hk7 s1 s2 s3 s4 f2 f3
            have hl9 := lt_of_cell z2
            refine wpLate_step fun K' hK => ?_
            go_simp
            refine hK _ _ (fun h => absurd h (by decide)) ?_
            clear hK K'
            refine wpLate_step fun K' hK => ?_
            go_simp
            refine hK _ _ (fun h => absurd h (by decide)) ?_
            clear hK K'
            refine wpLate_nil ?_
            have HLO : Hid (cw < z1.heap.size ∧ g < z1.heap.size ∧ o < z1.heap.size ∧ ∀ b, (Value.slice (some ⟨B, off, none⟩) N ca).ownBlock = some b → b < z1.heap.size) := Lib.hid ⟨hl1, hl2, hl3, fun b e => (HOD1.out.lt b e).2⟩
            have HSP9 := Lib.hid (HSP8.out.row p (.slice ra (L0.length + 1) rc))
            have HOD9 : Hid (OwnD (w8.setCell ⟨o, p, none⟩ (.slice ra (L0.length + 1) rc)) w0.heap.size (.slice (some ⟨B, off, none⟩) N ca) (dartL P E)) := Lib.hid (OwnG.setNe HOD8.out (fun e => (HR.out _ e).2.2 rfl) _)
            have HRW9 := Lib.hid (Rows.put (L' := tailsTo E (j + 1)) HRW7.out hp (by rw [HV0.out]; exact HG8.out) (by rw [HTS.out, if_pos rfl, HL0.out]; exact HO8.out) (fun q hq => by rw [HTS.out, if_neg (fun e => hq e.symm)]) (fun b e => by
              rw [HV0.out]
              rcases HL8.out b e with c | c
              · exact .inl c
              · exact .inr (Nat.le_of_eq c.symm)) (by
              have := HLO.out
              have := HK8.out
              refine ⟨by omega, by omega, by omega, fun b e => ?_⟩
              have := HLO.out.2.2.2 b e
              omega))
            clear z0 z1' z2 z3 z4 z5 hl9 hno hl1 hl2 hl3 hl4
            show Exit.inBlock 3 _ .normal _ _
            go_wp2
            go_roundw
            case rel => exact ⟨j + 1, by omega, by go_num, _, HSP9.out, HOD9.out, HRW9.out⟩
            case measure => simp [intOf]; omega
          · have hjn : j = N := by omega
            subst hjn
            have s1 := HSP.out.c
            have s2 := HSP.out.g4
            have hl1 := lt_of_cell s1
            have hl2 := lt_of_cell s2
            go_wp2
            go_loopw [120] (fun iv wr => ∃ i : Nat, i ≤ np ∧ iv = .int .i64 i ∧ ∃ rows, Sp w0 wr cw g o ap np cp ae k ce mf (.slice aa j ca) rows ∧ OwnD wr w0.heap.size (.slice aa j ca) (dartL P E) ∧ Rows w0 wr cw g o np (.slice aa j ca) rows (fun p => if p < i then natL (outF P E p) else tailsTo E j p)) (fun iv _ => np - (intOf iv).toNat)
            case atStart => exact ⟨0, Nat.zero_le _, rfl, _, HSP.out, HOD.out, by simpa using HRW.out⟩
            case round =>
              clear HSP HOD HRW s1 s2 hl1 hl2
              obtain ⟨i, hi, rfl, rows, hsp, hod, hrw⟩ := hrel
              have HSP := Lib.hid hsp
              have HOD := Lib.hid hod
              have HRW := Lib.hid hrw
              clear hsp hod hrw
              by_cases hlt : i < np
              · have s1 := HSP.out.c
                have s2 := HSP.out.g4
                have s3 := atV HSP.out.own (k := i) (by rw [HRW.out.len]; exact hlt)
                have hrp : rows[i]'(by rw [HRW.out.len]; exact hlt) = rowAt rows i := by unfold rowAt; rw [List.getD_eq_getElem?_getD, List.getElem?_eq_getElem (by rw [HRW.out.len]; exact hlt)]; rfl
                rw [hrp] at s3
                have hl1 := lt_of_cell s1
                have hl3 := lt_of_cell s3
                have HOP : Hid (OwnN wr w0.heap.size (rowAt rows i) (tailsTo E j i)) := Lib.hid (by have := HRW.out.own i hlt; rw [if_neg (by omega)] at this; exact this)
                have HOF := Lib.hid (HRW.out.off i · hlt)
                have HCM : Hid (∀ gr, (rowAt rows i).ownBlock = some gr → CmpOk 82 #[.pointer (some ⟨cw, 0, none⟩)] (fun x : Int => Value.int .i64 x) (DartAt E i) (angD P E) wr gr) := Lib.hid (fun gr e => spread_cmp HSP.out HOD.out HNN.out HE.out HOK.out i gr (HOF.out gr e).1 (HOF.out gr e).2.1 (HOF.out gr e).2.2.2)
                have HTA : Hid (∀ x ∈ tailsTo E j i, DartAt E i x) := Lib.hid (fun x hx => by
                  unfold tailsTo natL at hx
                  obtain ⟨d, hd, rfl⟩ := List.mem_map.1 hx
                  rw [List.mem_filter, List.mem_range] at hd
                  exact ⟨d, rfl, by rw [HNN.out]; exact hd.1, by simpa using hd.2⟩)
                have HLT : Hid ((tailsTo E j i).length < 1099511627776) := Lib.hid (by
                  unfold tailsTo natL
                  have h1 := List.length_filter_le (fun d => dTail E d == i) (List.range j)
                  rw [List.length_range] at h1
                  rw [List.length_map]
                  omega)
                have HSO : Hid (∀ l : List Int, l.Perm (tailsTo E j i) → Srt (fun x y => angD P E x y < 0) l 0 l.length → l = natL (outF P E i)) := Lib.hid (fun l h1 h2 => sorted_out HLD.out (by rw [HNN.out]; exact h1) h2)
                generalize hv0 : rowAt rows i = v0 at *
                have HV0 := Lib.hid hv0
                clear hv0 hrp
                go_wp2_with fail
                refine (sortedN_any v0 (tailsTo E j i) w0.heap.size 82 #[.pointer (some ⟨cw, 0, none⟩)] (DartAt E i) (angD P E) _ HOP.out HCM.out (angD_lin HLD.out i) (fun q hq => by rw [gt_eq hq]; exact HTA.out _ (List.getElem_mem hq)) HLT.out).mono ?_
                rintro e w5 ⟨l', rfl, hp1, hs1, ho1, hg1⟩
                have HL' := Lib.hid (HSO.out l' hp1 hs1)
                have HSP5 := Lib.hid (HSP.out.grown hg1 (fun r e => ⟨(HOP.out.lt r e).1, (HOF.out r e).1, (HOF.out r e).2.1, (HOF.out r e).2.2.1⟩))
                have HOD5 := Lib.hid (OwnG.grownNe HOD.out hg1 (fun r e1 e2 => (HOF.out r e2.symm).2.2.2 e1))
                have HRW5 := Lib.hid (Rows.sort (L' := fun p => if p < i + 1 then natL (outF P E p) else tailsTo E j p) HRW.out hlt (by rw [HV0.out]; exact hg1) (by rw [HV0.out, if_pos (by omega), ← HL'.out]; exact ho1) (fun q hq => by
                  by_cases c : q < i
                  · simp only [c, if_true]; rw [if_pos (by omega)]
                  · simp only [c, if_false]; rw [if_neg (by omega)]))
                clear hp1 hs1 ho1 hg1 s1 s2 s3 hl1 hl3
                go_wp2
                go_roundw
                case rel => exact ⟨i + 1, by omega, by go_num, rows, HSP5.out, HOD5.out, HRW5.out⟩
                case measure => simp [intOf]; omega
              · have hin : i = np := by omega
                subst hin
                have s1 := HSP.out.c
                have hl1 := lt_of_cell s1
                go_wp2
                go_ret
                have hws : w.heap.size ≤ w0.heap.size := HK0.out.size
                refine ⟨g, rfl, Nat.le_trans hws HSP.out.wg, spread_web HSP.out HOD.out HRW.out HNN.out HNP.out (HP.out.kept (HK0.out.trans HSP.out.kept)) (fun x e k => ?_) (fun e => (HR.out _ e).2.1 rfl), HSP.out.g0, HSP.out.g1, HSP.out.g2, HSP.out.g5, HSP.out.fg, HK0.out.trans HSP.out.kept⟩
                have h1 := HOFF.out x e
                have h2 := HSP.out.wg
                omega
end Go.Proofs.YtlglfcdobbocnaaGreat
