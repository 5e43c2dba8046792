/- ref.Join. -/
import Derived.Test.YteljjkghjbofnaaLh
import Derived.Maps.AppendAt
set_option maxRecDepth 100000
namespace Go.Proofs.Yteljjkghjbofnaa
open Go Go.Proofs Go.RowKit
attribute [local go_sem] Oper.semAt_some

theorem uniP_len (A B : List (Int × Int)) : (uniP A B).length ≤ A.length + B.length := by
  unfold uniP
  induction B generalizing A with
  | nil => simp
  | cons y B ih =>
    have h3 := ih (insP A y)
    have h5 := insP_len A y
    simp only [List.foldl_cons, List.length_cons]
    omega
theorem uniP_succ {A B : List (Int × Int)} {k : Nat} {y : Int × Int} (hy : B[k]? = some y) : uniP A (B.take (k + 1)) = insP (uniP A (B.take k)) y := by
  rw [(drop_at hy).2]
  unfold uniP
  rw [List.foldl_append]
  rfl
/-- A list behind ao that is not in block bx, and above block g. -/
def LsN (X : World) (bx g : Nat) (ao : Option Addr) (c : Nat) (l : List (Int × Int)) : Prop :=
  Pairs X ao l ∧ l.length ≤ c ∧ (ao = none → c = 0) ∧ ∀ ad, ao = some ad → ∃ B off, ad = ⟨B, off, none⟩ ∧ B ≠ bx ∧ g < B
theorem LsN.kept {X Y : World} {bx g c : Nat} {ao : Option Addr} {l : List (Int × Int)} (h : LsN X bx g ao c l) (hk : Kept X Y) : LsN Y bx g ao c l := ⟨h.1.kept hk, h.2⟩
theorem LsN.set {X : World} {bx g c o : Nat} {ao : Option Addr} {l : List (Int × Int)} (h : LsN X bx g ao c l) (u : Value) : LsN (X.setCell ⟨bx, o, none⟩ u) bx g ao c l := by
  obtain ⟨h1, h2, h3, h4⟩ := h
  refine ⟨fun i hi => ?_, h2, h3, h4⟩
  obtain ⟨B, off, e, c0, c1⟩ := h1 i hi
  obtain ⟨B', off', e', hne, -⟩ := h4 _ e
  cases e'
  exact ⟨B, off, e, cell_set_block c0 hne, cell_set_block c1 hne⟩
theorem LsN.setG {X : World} {bx g c o : Nat} {ao : Option Addr} {l : List (Int × Int)} (h : LsN X bx g ao c l) (u : Value) : LsN (X.setCell ⟨g, o, none⟩ u) bx g ao c l := by
  obtain ⟨h1, h2, h3, h4⟩ := h
  refine ⟨fun i hi => ?_, h2, h3, h4⟩
  obtain ⟨B, off, e, c0, c1⟩ := h1 i hi
  obtain ⟨B', off', e', -, hne⟩ := h4 _ e
  cases e'
  exact ⟨B, off, e, cell_set_block c0 (Nat.ne_of_gt hne), cell_set_block c1 (Nat.ne_of_gt hne)⟩
theorem InsP.lstN {l' : List (Int × Int)} {lo : Option Addr} {w w' : World} {e : Ending} {bx g c : Nat} {l : List (Int × Int)} (h : InsP l' lo w e w') (hl : LsN w bx g lo c l) (hb : bx < w.heap.size) (hg : g < w.heap.size) : ∃ ao c', e = .returned (.slice ao l'.length c') ∧ LsN w' bx g ao c' l' ∧ Kept w w' := by
  obtain ⟨ao, c', rfl, h1, h2, h3, h4, h5⟩ := h
  refine ⟨ao, c', rfl, ⟨h1, h2, h3, fun ad had => ?_⟩, h5⟩
  obtain ⟨B, off, rfl, h6⟩ := h4 ad had
  refine ⟨B, off, rfl, ?_⟩
  rcases h6 with h6 | h6
  · obtain ⟨B', off', e', hne⟩ := hl.2.2.2 _ h6
    cases e'
    exact hne
  · exact ⟨by omega, by omega⟩
theorem heap_alloc_old {X : World} {o : Obj} {k : Nat} (h : k < X.heap.size) : (X.alloc o).heap[k]? = X.heap[k]? := ((Kept.refl X).alloc o).below.block k h
theorem heap_alloc_get (X : World) (o : Obj) (k : Nat) : (X.alloc o).heap[k]? = if k = X.heap.size then some o else X.heap[k]? := by
  by_cases h : k = X.heap.size
  · subst h
    rw [if_pos rfl]
    exact heap_alloc_new X o
  · rw [if_neg h]
    by_cases h2 : k < X.heap.size
    · exact heap_alloc_old h2
    · rw [Array.getElem?_eq_none (by simp; omega), Array.getElem?_eq_none (by omega)]
theorem heap_drew (X : World) : X.drew.heap = X.heap := rfl
theorem st1 (X : World) (e : Obj) : (X.alloc e).heap[X.heap.size]? = some e := heap_alloc_new X e
theorem st2 (X : World) (e o : Obj) : ((X.alloc e).alloc o).heap[X.heap.size]? = some e := (heap_alloc_old (by simp)).trans (st1 X e)
theorem st3 (X : World) (e o o' : Obj) : (((X.alloc e).alloc o).alloc o').heap[X.heap.size]? = some e := (heap_alloc_old (by simp; omega)).trans (st2 X e o)
theorem st2' (X : World) (e o : Obj) : ((X.alloc o).alloc e).heap[X.heap.size + 1]? = some e := by
  have h := st1 (X.alloc o) e
  rw [show (X.alloc o).heap.size = X.heap.size + 1 by simp] at h
  exact h
theorem st3' (X : World) (e o o' : Obj) : (((X.alloc o).alloc e).alloc o').heap[X.heap.size + 1]? = some e := (heap_alloc_old (by simp)).trans (st2' X e o)
theorem st3'' (X : World) (e o o' : Obj) : (((X.alloc o).alloc o').alloc e).heap[X.heap.size + 1 + 1]? = some e := by
  have h := st2' (X.alloc o) e o'
  rw [show (X.alloc o).heap.size = X.heap.size + 1 by simp] at h
  exact h

/-- What a copy behind an empty slice in block g has made of the world X. -/
structure CpPost (W0 X : World) (g : Nat) (y : List (Int × Int)) (ra : Option Addr) (rc : Nat) (Y : World) : Prop where
  kept : Kept W0 Y
  prs : Pairs Y ra y
  cap : y.length ≤ rc
  nil : ra = none → rc = 0
  adr : ∀ ad, ra = some ad → ∃ B, ad = ⟨B, 0, none⟩ ∧ (B = g ∨ X.heap.size ≤ B) ∧ B < Y.heap.size ∧ W0.heap.size ≤ B
  un : ∀ b, b ≠ g → b < X.heap.size → Y.heap[b]? = X.heap[b]?
  sz : X.heap.size ≤ Y.heap.size
theorem cell_of_heap {X Y : World} {b o : Nat} (h : Y.heap[b]? = X.heap[b]?) : Y.cell? ⟨b, o, none⟩ = X.cell? ⟨b, o, none⟩ := by
  unfold World.cell?
  simp only []
  rw [h]
theorem frozen_of_heap {X Y : World} {b o : Nat} (h : Y.heap[b]? = X.heap[b]?) : Y.frozen? ⟨b, o, none⟩ = X.frozen? ⟨b, o, none⟩ := by
  unfold World.frozen?
  simp only []
  rw [h]
theorem PBox.ofHeap {X Y : World} {bx : Nat} {N : Int} {va vb : Value} (h : PBox X bx N va vb) (e : Y.heap[bx]? = X.heap[bx]?) : PBox Y bx N va vb :=
  ⟨(cell_of_heap e).trans h.c0, (cell_of_heap e).trans h.c1, (cell_of_heap e).trans h.c2, fun o => (frozen_of_heap e).trans (h.fz o)⟩
theorem PBox.ofRow {X : World} {bx : Nat} {N : Int} {va vb : Value} (e : X.heap[bx]? = some (.cells #[.int .i64 N, va, vb] 24)) : PBox X bx N va vb :=
  ⟨by unfold World.cell?; simp only []; rw [e]; rfl, by unfold World.cell?; simp only []; rw [e]; rfl, by unfold World.cell?; simp only []; rw [e]; rfl, fun o => frozen_of_row _ _ _ _ _ e⟩
theorem CpPost.move {W0 X Y Z : World} {g bx g' : Nat} {y : List (Int × Int)} {ra : Option Addr} {rc : Nat} (hg' : g' < W0.heap.size) (h : CpPost W0 X g y ra rc Y) (hz : ∀ b, b = g ∨ X.heap.size ≤ b → b < Y.heap.size → Z.heap[b]? = Y.heap[b]?) (hb : bx ≠ g) (hb2 : bx < X.heap.size ∨ Y.heap.size ≤ bx) : LsN Z bx g' ra rc y := by
  refine ⟨fun i hi => ?_, h.cap, h.nil, fun ad had => ?_⟩
  · obtain ⟨B, off, e, c0, c1⟩ := h.prs i hi
    obtain ⟨B', e', h1, h2, h3⟩ := h.adr _ e
    cases e'
    exact ⟨B, 0, e, (cell_of_heap (hz B h1 h2)).trans c0, (cell_of_heap (hz B h1 h2)).trans c1⟩
  · obtain ⟨B, rfl, h1, h2, h3⟩ := h.adr ad had
    exact ⟨B, 0, rfl, by omega, by omega⟩

theorem step_cp {ops : Array Oper} {o : Oper} {a : Act} {w : World} {K : Act → World → Prop} {Q : Exit → Act → World → Prop} {E : Prop}
    (hg : o.guard = none) (s x : Operand) (hop : o.op = Op.call { callee := Callee.builtin Builtin.append, args := #[s, x], argTypes := #[22, 22] })
    {g : Nat} (hs : a.eval s = .slice (some ⟨g, 0, none⟩) 0 0) (hE : w.heap[g]? = some (.cells #[] 83)) (W0 : World) (hb : W0.heap.size ≤ g) (y : List (Int × Int)) (yo : Option Addr) (c : Nat) (hx : a.eval x = .slice yo y.length c)
    (hk : Kept W0 w) (hp : Pairs W0 yo y) (hnil : yo = none → c = 0) (hlen : y.length < 1099511627776)
    (hK : ∀ ra rc w', CpPost W0 w g y ra rc w' → K (a.put o.dst (.slice ra y.length rc)) w') :
    if Region.wanted o (yielded ops a.tmps) = true then Oper.wp Try.prog o a w K Q else E := by
  have hw : Region.wanted o (yielded ops a.tmps) = true := by simp [Region.wanted, hg]
  rw [if_pos hw]
  have hown : OwnG w W0.heap.size 83 2 pairC (.slice (some ⟨g, 0, none⟩) 0 0) ([] : List (Int × Int)) := ⟨by simp, .inr ⟨g, 0, #[], rfl, hb, hE, Nat.le_refl _, Nat.zero_le _, rfl, rfl⟩⟩
  have hgl : g < w.heap.size := (Array.getElem?_eq_some_iff.1 hE).1
  obtain ⟨i0, hi, hz0, hz1, hz2⟩ := info_parts info83
  cases yo with
  | some ad =>
    obtain ⟨v', w', hrun, r1, r2, _, r4⟩ := run_append_own_at (P := Try.prog) (w := w) W0.heap.size 22 o.type 83 i0 _ 2 16 Try.underlying22 hi hz0 hz1 hz2 rfl (by decide) _ 0 _ hown ad y.length c (y.flatMap pairC) (flatMap_len pairC_len y) (pairs_newsA (hp.kept hk)) (pairs_one y) (by unfold maxLen; omega) (by omega) hk.size
    unfold Oper.wp
    simp [execOp, hop, resolve, invoke, builtin, hs, hx, hrun, Result.andThen]
    have h : OwnG w' W0.heap.size 83 2 pairC v' y := by
      unfold OwnG
      rw [Nat.zero_add] at r1
      simpa using r1
    have hkk : Kept W0 w' := hk.grown r2 (fun r e => (OwnG.lt hown r e).1)
    have hun : ∀ b, b ≠ g → b < w.heap.size → w'.heap[b]? = w.heap[b]? := fun b hne hlt => r2.block b hlt (fun e => hne (by simpa [Value.ownBlock] using e))
    rcases h.slice pairC_len with ⟨rfl, rfl⟩ | ⟨B, C, rfl, h1, h2, h3, -, -⟩
    · exact hK none 0 w' ⟨hkk, Pairs.nil _ _, Nat.le_refl _, fun _ => rfl, fun ad e => (by cases e), hun, r2.size⟩
    · obtain ⟨ra, rc, e, h4, -⟩ := h.prs
      cases e
      refine hK _ _ w' ⟨hkk, h4, h1, fun e => (by cases e), fun ad e => ?_, hun, r2.size⟩
      cases e
      refine ⟨B, rfl, ?_, h3, h2⟩
      rcases r4 with r4 | r4
      · simp [Value.ownBlock] at r4
        exact .inl r4
      · simp [Value.ownBlock] at r4
        exact .inr (Nat.le_of_eq r4.symm)
  | none =>
    obtain rfl := hnil rfl
    have hnn : y = [] := by
      cases y with
      | nil => rfl
      | cons y t => obtain ⟨b, off, e, _⟩ := hp 0 (by simp); cases e
    subst hnn
    have hrun := run_append_owned_none (P := Try.prog) w W0.heap.size 22 o.type 83 i0 2 Try.underlying22 hi _ 0 _ hown
    unfold Oper.wp
    simp [execOp, hop, resolve, invoke, builtin, hs, hx, hrun, Result.andThen]
    exact hK _ _ w ⟨hk, Pairs.nil _ _, Nat.le_refl _, fun e => (by cases e), fun ad e => (by cases e; exact ⟨g, rfl, .inl rfl, hgl, hb⟩), fun b _ _ => rfl, Nat.le_refl _⟩

theorem cp_ls5 {W0 X5 w5 X9 w6 Y : World} {g5 g9 bx g rc rd : Nat} {A B : List (Int × Int)} {ra rb : Option Addr} (hg : g < W0.heap.size) (h5 : CpPost W0 X5 g5 A ra rc w5) (h9 : CpPost W0 X9 g9 B rb rd w6) (k : Kept w5 X9) (c1 : g5 ≠ g9) (c2 : g9 < X5.heap.size ∨ w5.heap.size ≤ g9) (c3 : bx ≠ g5) (c4 : bx < X5.heap.size ∨ w5.heap.size ≤ bx) (hy : Kept w6 Y) : LsN Y bx g ra rc A :=
  CpPost.move hg h5 (fun b hb hlt => by
    have h1 := k.below.block b hlt
    have hlt9 : b < X9.heap.size := Nat.lt_of_lt_of_le hlt k.size
    have h2 := h9.un b (by omega) hlt9
    have h3 := hy.below.block b (Nat.lt_of_lt_of_le hlt9 h9.sz)
    exact h3.trans (h2.trans h1)) c3 c4
theorem cp_ls9 {W0 X9 w6 Y : World} {g9 bx g rd : Nat} {B : List (Int × Int)} {rb : Option Addr} (hg : g < W0.heap.size) (h9 : CpPost W0 X9 g9 B rb rd w6) (c5 : bx ≠ g9) (c6 : bx < X9.heap.size ∨ w6.heap.size ≤ bx) (hy : Kept w6 Y) : LsN Y bx g rb rd B :=
  CpPost.move hg h9 (fun b _ hlt => hy.below.block b hlt) c5 c6
theorem cp_finA {W0 X5 w5 X9 w6 : World} {g5 g9 g rc rd : Nat} {A B : List (Int × Int)} {ra rb : Option Addr} {N : Int} (hg : g < W0.heap.size) (h5 : CpPost W0 X5 g5 A ra rc w5) (h9 : CpPost W0 X9 g9 B rb rd w6) (k : Kept w5 X9) (c1 : g5 ≠ g9) (c2 : g9 < X5.heap.size ∨ w5.heap.size ≤ g9) (c3 : w6.heap.size ≠ g5) (c4 : w6.heap.size < X5.heap.size ∨ w5.heap.size ≤ w6.heap.size) (c5 : w6.heap.size ≠ g9) :
    W0.heap.size ≤ w6.heap.size ∧ w6.heap.size < (w6.alloc (.cells #[.int .i64 N, .slice ra A.length rc, .slice rb B.length rd] 24)).heap.size ∧ Kept W0 (w6.alloc (.cells #[.int .i64 N, .slice ra A.length rc, .slice rb B.length rd] 24)) ∧ PBox (w6.alloc (.cells #[.int .i64 N, .slice ra A.length rc, .slice rb B.length rd] 24)) w6.heap.size N (.slice ra A.length rc) (.slice rb B.length rd) ∧ LsN (w6.alloc (.cells #[.int .i64 N, .slice ra A.length rc, .slice rb B.length rd] 24)) w6.heap.size g ra rc A ∧ LsN (w6.alloc (.cells #[.int .i64 N, .slice ra A.length rc, .slice rb B.length rd] 24)) w6.heap.size g rb rd B :=
  ⟨h9.kept.size, by simp, h9.kept.alloc _, PBox.new w6 _ _ _, cp_ls5 hg h5 h9 k c1 c2 c3 c4 ((Kept.refl w6).alloc _), cp_ls9 hg h9 c5 (.inr (Nat.le_refl _)) ((Kept.refl w6).alloc _)⟩
theorem cp_finB {W0 X5 w5 X9 w6 : World} {g5 g9 bx g rc rd : Nat} {A B : List (Int × Int)} {ra rb : Option Addr} {N n0 : Int} {u v : Value} (hg : g < W0.heap.size) (h5 : CpPost W0 X5 g5 A ra rc w5) (h9 : CpPost W0 X9 g9 B rb rd w6) (k : Kept w5 X9) (hz : PBox w6 bx n0 u v) (c1 : g5 ≠ g9) (c2 : g9 < X5.heap.size ∨ w5.heap.size ≤ g9) (c3 : bx ≠ g5) (c4 : bx < X5.heap.size ∨ w5.heap.size ≤ bx) (c5 : bx ≠ g9) (c6 : bx < X9.heap.size) (c7 : W0.heap.size ≤ bx) :
    W0.heap.size ≤ bx ∧ bx < (((w6.setCell ⟨bx, 0, none⟩ (.int .i64 N)).setCell ⟨bx, 1, none⟩ (.slice ra A.length rc)).setCell ⟨bx, 2, none⟩ (.slice rb B.length rd)).heap.size ∧ Kept W0 (((w6.setCell ⟨bx, 0, none⟩ (.int .i64 N)).setCell ⟨bx, 1, none⟩ (.slice ra A.length rc)).setCell ⟨bx, 2, none⟩ (.slice rb B.length rd)) ∧ PBox (((w6.setCell ⟨bx, 0, none⟩ (.int .i64 N)).setCell ⟨bx, 1, none⟩ (.slice ra A.length rc)).setCell ⟨bx, 2, none⟩ (.slice rb B.length rd)) bx N (.slice ra A.length rc) (.slice rb B.length rd) ∧ LsN (((w6.setCell ⟨bx, 0, none⟩ (.int .i64 N)).setCell ⟨bx, 1, none⟩ (.slice ra A.length rc)).setCell ⟨bx, 2, none⟩ (.slice rb B.length rd)) bx g ra rc A ∧ LsN (((w6.setCell ⟨bx, 0, none⟩ (.int .i64 N)).setCell ⟨bx, 1, none⟩ (.slice ra A.length rc)).setCell ⟨bx, 2, none⟩ (.slice rb B.length rd)) bx g rb rd B :=
  ⟨c7, lt_of_cell (hz.set _ _ _).c0, ((h9.kept.setCell (p := ⟨bx, 0, none⟩) c7 _).setCell (p := ⟨bx, 1, none⟩) c7 _).setCell (p := ⟨bx, 2, none⟩) c7 _, hz.set _ _ _, (((cp_ls5 hg h5 h9 k c1 c2 c3 c4 (Kept.refl w6)).set _).set _).set _, (((cp_ls9 hg h9 c5 (.inl c6) (Kept.refl w6)).set _).set _).set _⟩
theorem cells3_kept {X Y : World} {g : Nat} {u v t : Value} (hk : Kept X Y) (h : X.cell? ⟨g, 0, none⟩ = some u ∧ X.cell? ⟨g, 1, none⟩ = some v ∧ X.cell? ⟨g, 2, none⟩ = some t ∧ g < X.heap.size) : Y.cell? ⟨g, 0, none⟩ = some u ∧ Y.cell? ⟨g, 1, none⟩ = some v ∧ Y.cell? ⟨g, 2, none⟩ = some t ∧ g < Y.heap.size :=
  ⟨hk.cell h.1, hk.cell h.2.1, hk.cell h.2.2.1, lt_of_cell (hk.cell h.1)⟩
theorem cells3_set {X : World} {g k : Nat} {u v t v0 v1 v2 : Value} (h : X.cell? ⟨g, 0, none⟩ = some u ∧ X.cell? ⟨g, 1, none⟩ = some v ∧ X.cell? ⟨g, 2, none⟩ = some t ∧ g < X.heap.size) (hne : g ≠ k) :
    (((X.setCell ⟨k, 0, none⟩ v0).setCell ⟨k, 1, none⟩ v1).setCell ⟨k, 2, none⟩ v2).cell? ⟨g, 0, none⟩ = some u ∧ (((X.setCell ⟨k, 0, none⟩ v0).setCell ⟨k, 1, none⟩ v1).setCell ⟨k, 2, none⟩ v2).cell? ⟨g, 1, none⟩ = some v ∧ (((X.setCell ⟨k, 0, none⟩ v0).setCell ⟨k, 1, none⟩ v1).setCell ⟨k, 2, none⟩ v2).cell? ⟨g, 2, none⟩ = some t ∧ g < (((X.setCell ⟨k, 0, none⟩ v0).setCell ⟨k, 1, none⟩ v1).setCell ⟨k, 2, none⟩ v2).heap.size :=
  ⟨cell_set3 h.1 hne, cell_set3 h.2.1 hne, cell_set3 h.2.2.1 hne, size_set3 h.2.2.2⟩
theorem cells7_kept {X Y : World} {g B a b : Nat} {u v t y1 y2 : Value} (hk : Kept X Y) (h : X.cell? ⟨g, 0, none⟩ = some u ∧ X.cell? ⟨g, 1, none⟩ = some v ∧ X.cell? ⟨g, 2, none⟩ = some t ∧ g < X.heap.size ∧ X.cell? ⟨B, a, none⟩ = some y1 ∧ X.cell? ⟨B, b, none⟩ = some y2 ∧ B < X.heap.size) :
    Y.cell? ⟨g, 0, none⟩ = some u ∧ Y.cell? ⟨g, 1, none⟩ = some v ∧ Y.cell? ⟨g, 2, none⟩ = some t ∧ g < Y.heap.size ∧ Y.cell? ⟨B, a, none⟩ = some y1 ∧ Y.cell? ⟨B, b, none⟩ = some y2 ∧ B < Y.heap.size :=
  ⟨hk.cell h.1, hk.cell h.2.1, hk.cell h.2.2.1, lt_of_cell (hk.cell h.1), hk.cell h.2.2.2.2.1, hk.cell h.2.2.2.2.2.1, lt_of_cell (hk.cell h.2.2.2.2.1)⟩
theorem cells7_set {X : World} {g B a b bx o : Nat} {u v t y1 y2 z : Value} (h : X.cell? ⟨g, 0, none⟩ = some u ∧ X.cell? ⟨g, 1, none⟩ = some v ∧ X.cell? ⟨g, 2, none⟩ = some t ∧ g < X.heap.size ∧ X.cell? ⟨B, a, none⟩ = some y1 ∧ X.cell? ⟨B, b, none⟩ = some y2 ∧ B < X.heap.size) (h1 : g ≠ bx) (h2 : B ≠ bx) :
    (X.setCell ⟨bx, o, none⟩ z).cell? ⟨g, 0, none⟩ = some u ∧ (X.setCell ⟨bx, o, none⟩ z).cell? ⟨g, 1, none⟩ = some v ∧ (X.setCell ⟨bx, o, none⟩ z).cell? ⟨g, 2, none⟩ = some t ∧ g < (X.setCell ⟨bx, o, none⟩ z).heap.size ∧ (X.setCell ⟨bx, o, none⟩ z).cell? ⟨B, a, none⟩ = some y1 ∧ (X.setCell ⟨bx, o, none⟩ z).cell? ⟨B, b, none⟩ = some y2 ∧ B < (X.setCell ⟨bx, o, none⟩ z).heap.size :=
  ⟨cell_set_block h.1 h1, cell_set_block h.2.1 h1, cell_set_block h.2.2.1 h1, lt_of_cell (cell_set_block h.1 h1), cell_set_block h.2.2.2.2.1 h2, cell_set_block h.2.2.2.2.2.1 h2, lt_of_cell (cell_set_block h.2.2.2.2.1 h2)⟩

set_option maxHeartbeats 8000000 in
theorem RJoin_any (o p : Prob) (ao bo ap bp : Option Addr) (ca cb da db : Nat) (w : World) (ho : IsProb w o ao bo) (hp : IsProb w p ap bp) (hna : ao = none → ca = 0) (hnb : bo = none → cb = 0) :
    Calls Try.prog 73 #[probV o ao ca bo cb, probV p ap da bp db] w (RPost (JoinR o p).1 (JoinR o p).2 w) := by
  have HO := Lib.hid ho
  have HP := Lib.hid hp
  have HNA := Lib.hid hna
  have HNB := Lib.hid hnb
  clear ho hp hna hnb
  obtain ⟨R, hR⟩ : ∃ R, JoinR o p = R := ⟨_, rfl⟩
  rw [hR]
  have HR := Lib.hid hR
  clear hR
  go_enter Try.func73, Try.ntmps73
  go_wp2_with fail
  obtain ⟨w0, e0, hk0, hb0, e5⟩ := alloc_prob w o.N o.arcs o.near ao ca bo cb
  rw [e0]
  clear e0
  obtain ⟨w1, e1, hk1, hb1, e6⟩ := alloc_prob w0 p.N p.arcs p.near ap da bp db
  rw [e1]
  clear e1
  have hb2 := PBox.new w1 0 (.slice none 0 0) (.slice none 0 0)
  have hk2 : Kept w1 (w1.alloc (.cells #[.int .i64 0, .slice none 0 0, .slice none 0 0] 24)) := (Kept.refl _).alloc _
  have e7 : w1.heap.size + 1 = (w1.alloc (.cells #[.int .i64 0, .slice none 0 0, .slice none 0 0] 24)).heap.size := by simp
  generalize w1.alloc (.cells #[.int .i64 0, .slice none 0 0, .slice none 0 0] 24) = w2 at *
  obtain ⟨g0, hg0⟩ : ∃ g0, w.heap.size = g0 := ⟨_, rfl⟩
  obtain ⟨g1, hg1⟩ : ∃ g1, w.heap.size + 1 = g1 := ⟨_, rfl⟩
  obtain ⟨g2, hg2⟩ : ∃ g2, w.heap.size + 1 + 1 = g2 := ⟨_, rfl⟩
  rw [hg0] at hb0
  rw [show w0.heap.size = g1 by omega] at hb1
  rw [show w1.heap.size = g2 by omega] at hb2
  rw [hg2, hg1, hg0]
  have HBO := Lib.hid (hb0.kept (hk1.trans hk2))
  have HBP := Lib.hid (hb1.kept hk2)
  have HB2 := Lib.hid hb2
  have HK2 := Lib.hid ((hk0.trans hk1).trans hk2)
  have HGG : Hid (w.heap.size = g0 ∧ g0 < g1 ∧ g1 < g2 ∧ g2 < w2.heap.size) := Lib.hid ⟨by omega, by omega, by omega, by omega⟩
  clear hk0 hb0 e5 hk1 hb1 e6 hk2 hb2 e7 hg0 hg1 hg2
  obtain ⟨q0, q1, q2⟩ := HBO.out
  have qb := lt_of_cell q0
  go_wp2_with fail
  clear q0 q1 q2 qb
  refine (RCheck_any o ao bo ca cb w2 (HO.out.kept HK2.out)).mono ?_
  rintro e w3 ⟨rfl, hk⟩
  have HK3 := Lib.hid (HK2.out.trans hk)
  have HBO3 := Lib.hid (HBO.out.kept hk)
  have HBP3 := Lib.hid (HBP.out.kept hk)
  have HB23 := Lib.hid (HB2.out.kept hk)
  have HGG3 : Hid (w.heap.size = g0 ∧ g0 < g1 ∧ g1 < g2 ∧ g2 < w3.heap.size) := Lib.hid (by have := HGG.out; have := hk.size; omega)
  clear hk HK2 HBO HBP HB2 HGG
  by_cases hc : chk o = 0
  case neg =>
    have b1 : (chk o != 0) = true := by simp [hc]
    have HX := Lib.hid hc
    clear hc
    obtain ⟨p0, p1, p2, pf⟩ := HB23.out
    have f0 := pf 0
    have f1 := pf 1
    have f2 := pf 2
    have pb := lt_of_cell p0
    clear pf
    have HP9 := Lib.hid (HB23.out.set 0 (.slice none 0 0) (.slice none 0 0))
    go_wp2
    refine bodyPost_ret (results_cell_tmp rfl _ _ ⟨g2, 0, none⟩ rfl _ (load24 HP9.out.c0 HP9.out.c1 HP9.out.c2)) rfl ?_
    have hres : R = (⟨0, [], []⟩, chk o) := by
      rw [← HR.out]
      unfold JoinR
      rw [if_pos HX.out]
    rw [hres]
    have hg : w.heap.size ≤ g2 := by have := HGG3.out; omega
    exact ⟨none, 0, none, 0, rfl, Pairs.nil _ _, Pairs.nil _ _, (((HK3.out.setCell (p := ⟨g2, 0, none⟩) hg _).setCell (p := ⟨g2, 1, none⟩) hg _).setCell (p := ⟨g2, 2, none⟩) hg _)⟩
  have HC1 := Lib.hid hc
  have b1 : (chk o != 0) = false := by simp [hc]
  clear hc
  obtain ⟨q0, q1, q2⟩ := HBP3.out
  have qb := lt_of_cell q0
  go_wp2_with fail
  clear q0 q1 q2 qb b1
  refine (RCheck_any p ap bp da db w3 (HP.out.kept HK3.out)).mono ?_
  rintro e w4 ⟨rfl, hk⟩
  have HK4 := Lib.hid (HK3.out.trans hk)
  have HBO4 := Lib.hid (HBO3.out.kept hk)
  have HBP4 := Lib.hid (HBP3.out.kept hk)
  have HB24 := Lib.hid (HB23.out.kept hk)
  have HGG4 : Hid (w.heap.size = g0 ∧ g0 < g1 ∧ g1 < g2 ∧ g2 < w4.heap.size) := Lib.hid (by have := HGG3.out; have := hk.size; omega)
  clear hk HK3 HBO3 HBP3 HB23 HGG3
  by_cases hc : chk p = 0
  case neg =>
    have b1 : (chk p != 0) = true := by simp [hc]
    have HX := Lib.hid hc
    clear hc
    obtain ⟨p0, p1, p2, pf⟩ := HB24.out
    have f0 := pf 0
    have f1 := pf 1
    have f2 := pf 2
    have pb := lt_of_cell p0
    clear pf
    have HP9 := Lib.hid (HB24.out.set 0 (.slice none 0 0) (.slice none 0 0))
    go_wp2
    refine bodyPost_ret (results_cell_tmp rfl _ _ ⟨g2, 0, none⟩ rfl _ (load24 HP9.out.c0 HP9.out.c1 HP9.out.c2)) rfl ?_
    have hres : R = (⟨0, [], []⟩, chk p) := by
      rw [← HR.out]
      unfold JoinR
      rw [if_neg (fun h => h HC1.out), if_pos HX.out]
    rw [hres]
    have hg : w.heap.size ≤ g2 := by have := HGG4.out; omega
    exact ⟨none, 0, none, 0, rfl, Pairs.nil _ _, Pairs.nil _ _, (((HK4.out.setCell (p := ⟨g2, 0, none⟩) hg _).setCell (p := ⟨g2, 1, none⟩) hg _).setCell (p := ⟨g2, 2, none⟩) hg _)⟩
  have HC2 := Lib.hid hc
  have b1 : (chk p != 0) = false := by simp [hc]
  clear hc
  obtain ⟨q0, q1, q2⟩ := HBO4.out
  have qb := lt_of_cell q0
  obtain ⟨r0, r1, r2⟩ := HBP4.out
  have rb := lt_of_cell r0
  by_cases hN : o.N = p.N
  case neg =>
    have b2 : (o.N != p.N) = true := by simp [hN]
    have HX := Lib.hid hN
    clear hN
    obtain ⟨p0, p1, p2, pf⟩ := HB24.out
    have f0 := pf 0
    have f1 := pf 1
    have f2 := pf 2
    have pb := lt_of_cell p0
    clear pf
    have HP9 := Lib.hid (HB24.out.set 0 (.slice none 0 0) (.slice none 0 0))
    go_wp2
    refine bodyPost_ret (results_cell_tmp rfl _ _ ⟨g2, 0, none⟩ rfl _ (load24 HP9.out.c0 HP9.out.c1 HP9.out.c2)) rfl ?_
    have hres : R = (⟨0, [], []⟩, 1) := by
      rw [← HR.out]
      unfold JoinR
      rw [if_neg (fun h => h HC1.out), if_neg (fun h => h HC2.out), if_pos HX.out]
    rw [hres]
    have hg : w.heap.size ≤ g2 := by have := HGG4.out; omega
    exact ⟨none, 0, none, 0, rfl, Pairs.nil _ _, Pairs.nil _ _, (((HK4.out.setCell (p := ⟨g2, 0, none⟩) hg _).setCell (p := ⟨g2, 1, none⟩) hg _).setCell (p := ⟨g2, 2, none⟩) hg _)⟩
  have HN := Lib.hid hN
  have b2 : (o.N != p.N) = false := by simp [hN]
  clear hN
  go_upto_region 9 with fail
  clear b1 b2 r0 r1 r2 rb
  have q3 : o.arcs.length < 1099511627776 := by have := arcs_len HC1.out; omega
  have q4 : o.near.length < 1099511627776 := by have := near_lenJ HC1.out; omega
  have HLA := Lib.hid q3
  have HLB := Lib.hid q4
  have HOA := Lib.hid (HO.out.kept HK4.out).arcs
  have HOB := Lib.hid (HO.out.kept HK4.out).near
  clear q3 q4
  go_cut [7] (fun s7 wx => ∃ (bx : Nat) (xa ya : Option Addr) (xc yc : Nat), s7 = .pointer (some ⟨bx, 0, none⟩) ∧ w4.heap.size ≤ bx ∧ bx < wx.heap.size ∧ Kept w4 wx ∧ PBox wx bx o.N (.slice xa o.arcs.length xc) (.slice ya o.near.length yc) ∧ LsN wx bx g2 xa xc o.arcs ∧ LsN wx bx g2 ya yc o.near)
  case first =>
    have sq := And.intro q0 (And.intro q1 (And.intro q2 qb))
    go_region_held3 (fun X => X.cell? ⟨g0, 0, none⟩ = some (.int .i64 o.N) ∧ X.cell? ⟨g0, 1, none⟩ = some (.slice ao o.arcs.length ca) ∧ X.cell? ⟨g0, 2, none⟩ = some (.slice bo o.near.length cb) ∧ g0 < X.heap.size)
      (first
        | with_reducible exact sq
        | with_reducible exact cells3_kept (Kept.refl w4).drew sq
        | with_reducible exact cells3_kept ((Kept.refl w4).alloc _).drew sq
        | with_reducible exact cells3_kept (((Kept.refl w4).alloc _).alloc _).drew sq
        | with_reducible exact cells3_kept ((((Kept.refl w4).alloc _).alloc _).alloc _).drew sq
        | with_reducible exact cells3_kept H5.out.kept sq
        | with_reducible exact cells3_kept (H5.out.kept.alloc _) sq
        | with_reducible exact cells3_kept ((H5.out.kept.alloc _).alloc _) sq
        | with_reducible exact cells3_kept H9.out.kept sq
        | with_reducible exact cells3_kept (H9.out.kept.alloc _) sq
        | with_reducible exact cells3_set (cells3_kept H9.out.kept sq) (by have := H5.out.kept.size; omega))
      (first
        | (refine step_cp rfl (.tmp 34) (.tmp 36) rfl rfl (by first | ((try rw [heap_drew]); first | with_reducible exact st1 _ _ | with_reducible exact st2 _ _ _ | with_reducible exact st2' _ _ _ | with_reducible exact st3 _ _ _ _ | with_reducible exact st3' _ _ _ _ | with_reducible exact st3'' _ _ _ _) | (refine (H5.out.un _ (by simp <;> omega) (by simp <;> omega)).trans ?_; ((try rw [heap_drew]); first | with_reducible exact st1 _ _ | with_reducible exact st2 _ _ _ | with_reducible exact st2' _ _ _ | with_reducible exact st3 _ _ _ _ | with_reducible exact st3' _ _ _ _ | with_reducible exact st3'' _ _ _ _)) | (refine (heap_alloc_old (by have := H5.out.sz; (try simp at this); omega)).trans ((H5.out.un _ (by simp <;> omega) (by simp <;> omega)).trans ?_); ((try rw [heap_drew]); first | with_reducible exact st1 _ _ | with_reducible exact st2 _ _ _ | with_reducible exact st2' _ _ _ | with_reducible exact st3 _ _ _ _ | with_reducible exact st3' _ _ _ _ | with_reducible exact st3'' _ _ _ _))) w4 (by first | simp | (have := H5.out.kept.size; simp; omega) | exact H5.out.kept.size) o.near bo cb (by simp [Act.eval]) (by first | exact H5.out.kept | exact H5.out.kept.alloc _ | exact (H5.out.kept.alloc _).alloc _) HOB.out HNB.out HLB.out ?_; intro rb rd w6 h9; have H9 := Lib.hid h9; clear h9; (first | (have hbx : PBox w6 (w5.heap.size) 0 (.slice none 0 0) (.slice none 0 0) := PBox.ofRow ((H9.out.un _ (by have h5 := H5.out.sz; (try simp at h5); (try simp) <;> omega) (by have h5 := H5.out.sz; (try simp at h5); (try simp) <;> omega)).trans (by first | ((try rw [heap_drew]); first | with_reducible exact st1 _ _ | with_reducible exact st2 _ _ _ | with_reducible exact st2' _ _ _ | with_reducible exact st3 _ _ _ _ | with_reducible exact st3' _ _ _ _ | with_reducible exact st3'' _ _ _ _) | (refine (H5.out.un _ (by simp <;> omega) (by simp <;> omega)).trans ?_; ((try rw [heap_drew]); first | with_reducible exact st1 _ _ | with_reducible exact st2 _ _ _ | with_reducible exact st2' _ _ _ | with_reducible exact st3 _ _ _ _ | with_reducible exact st3' _ _ _ _ | with_reducible exact st3'' _ _ _ _)) | (refine (heap_alloc_old (by have := H5.out.sz; (try simp at this); omega)).trans ((H5.out.un _ (by simp <;> omega) (by simp <;> omega)).trans ?_); ((try rw [heap_drew]); first | with_reducible exact st1 _ _ | with_reducible exact st2 _ _ _ | with_reducible exact st2' _ _ _ | with_reducible exact st3 _ _ _ _ | with_reducible exact st3' _ _ _ _ | with_reducible exact st3'' _ _ _ _)))); have HBZ := Lib.hid hbx; obtain ⟨x0, x1, x2, xf⟩ := hbx; have y0 := xf 0; have y1 := xf 1; have y2 := xf 2; have y3 := lt_of_cell x0; clear xf) | (have hbx : PBox w6 (w5.heap.size + 1) 0 (.slice none 0 0) (.slice none 0 0) := PBox.ofRow ((H9.out.un _ (by have h5 := H5.out.sz; (try simp at h5); (try simp) <;> omega) (by have h5 := H5.out.sz; (try simp at h5); (try simp) <;> omega)).trans (by first | ((try rw [heap_drew]); first | with_reducible exact st1 _ _ | with_reducible exact st2 _ _ _ | with_reducible exact st2' _ _ _ | with_reducible exact st3 _ _ _ _ | with_reducible exact st3' _ _ _ _ | with_reducible exact st3'' _ _ _ _) | (refine (H5.out.un _ (by simp <;> omega) (by simp <;> omega)).trans ?_; ((try rw [heap_drew]); first | with_reducible exact st1 _ _ | with_reducible exact st2 _ _ _ | with_reducible exact st2' _ _ _ | with_reducible exact st3 _ _ _ _ | with_reducible exact st3' _ _ _ _ | with_reducible exact st3'' _ _ _ _)) | (refine (heap_alloc_old (by have := H5.out.sz; (try simp at this); omega)).trans ((H5.out.un _ (by simp <;> omega) (by simp <;> omega)).trans ?_); ((try rw [heap_drew]); first | with_reducible exact st1 _ _ | with_reducible exact st2 _ _ _ | with_reducible exact st2' _ _ _ | with_reducible exact st3 _ _ _ _ | with_reducible exact st3' _ _ _ _ | with_reducible exact st3'' _ _ _ _)))); have HBZ := Lib.hid hbx; obtain ⟨x0, x1, x2, xf⟩ := hbx; have y0 := xf 0; have y1 := xf 1; have y2 := xf 2; have y3 := lt_of_cell x0; clear xf) | (have hbx : PBox w6 (w4.heap.size) 0 (.slice none 0 0) (.slice none 0 0) := PBox.ofRow ((H9.out.un _ (by have h5 := H5.out.sz; (try simp at h5); (try simp) <;> omega) (by have h5 := H5.out.sz; (try simp at h5); (try simp) <;> omega)).trans (by first | ((try rw [heap_drew]); first | with_reducible exact st1 _ _ | with_reducible exact st2 _ _ _ | with_reducible exact st2' _ _ _ | with_reducible exact st3 _ _ _ _ | with_reducible exact st3' _ _ _ _ | with_reducible exact st3'' _ _ _ _) | (refine (H5.out.un _ (by simp <;> omega) (by simp <;> omega)).trans ?_; ((try rw [heap_drew]); first | with_reducible exact st1 _ _ | with_reducible exact st2 _ _ _ | with_reducible exact st2' _ _ _ | with_reducible exact st3 _ _ _ _ | with_reducible exact st3' _ _ _ _ | with_reducible exact st3'' _ _ _ _)) | (refine (heap_alloc_old (by have := H5.out.sz; (try simp at this); omega)).trans ((H5.out.un _ (by simp <;> omega) (by simp <;> omega)).trans ?_); ((try rw [heap_drew]); first | with_reducible exact st1 _ _ | with_reducible exact st2 _ _ _ | with_reducible exact st2' _ _ _ | with_reducible exact st3 _ _ _ _ | with_reducible exact st3' _ _ _ _ | with_reducible exact st3'' _ _ _ _)))); have HBZ := Lib.hid hbx; obtain ⟨x0, x1, x2, xf⟩ := hbx; have y0 := xf 0; have y1 := xf 1; have y2 := xf 2; have y3 := lt_of_cell x0; clear xf) | (have hbx : PBox w6 (w4.heap.size + 1) 0 (.slice none 0 0) (.slice none 0 0) := PBox.ofRow ((H9.out.un _ (by have h5 := H5.out.sz; (try simp at h5); (try simp) <;> omega) (by have h5 := H5.out.sz; (try simp at h5); (try simp) <;> omega)).trans (by first | ((try rw [heap_drew]); first | with_reducible exact st1 _ _ | with_reducible exact st2 _ _ _ | with_reducible exact st2' _ _ _ | with_reducible exact st3 _ _ _ _ | with_reducible exact st3' _ _ _ _ | with_reducible exact st3'' _ _ _ _) | (refine (H5.out.un _ (by simp <;> omega) (by simp <;> omega)).trans ?_; ((try rw [heap_drew]); first | with_reducible exact st1 _ _ | with_reducible exact st2 _ _ _ | with_reducible exact st2' _ _ _ | with_reducible exact st3 _ _ _ _ | with_reducible exact st3' _ _ _ _ | with_reducible exact st3'' _ _ _ _)) | (refine (heap_alloc_old (by have := H5.out.sz; (try simp at this); omega)).trans ((H5.out.un _ (by simp <;> omega) (by simp <;> omega)).trans ?_); ((try rw [heap_drew]); first | with_reducible exact st1 _ _ | with_reducible exact st2 _ _ _ | with_reducible exact st2' _ _ _ | with_reducible exact st3 _ _ _ _ | with_reducible exact st3' _ _ _ _ | with_reducible exact st3'' _ _ _ _)))); have HBZ := Lib.hid hbx; obtain ⟨x0, x1, x2, xf⟩ := hbx; have y0 := xf 0; have y1 := xf 1; have y2 := xf 2; have y3 := lt_of_cell x0; clear xf) | (have hbx : PBox w6 (w4.heap.size + 1 + 1) 0 (.slice none 0 0) (.slice none 0 0) := PBox.ofRow ((H9.out.un _ (by have h5 := H5.out.sz; (try simp at h5); (try simp) <;> omega) (by have h5 := H5.out.sz; (try simp at h5); (try simp) <;> omega)).trans (by first | ((try rw [heap_drew]); first | with_reducible exact st1 _ _ | with_reducible exact st2 _ _ _ | with_reducible exact st2' _ _ _ | with_reducible exact st3 _ _ _ _ | with_reducible exact st3' _ _ _ _ | with_reducible exact st3'' _ _ _ _) | (refine (H5.out.un _ (by simp <;> omega) (by simp <;> omega)).trans ?_; ((try rw [heap_drew]); first | with_reducible exact st1 _ _ | with_reducible exact st2 _ _ _ | with_reducible exact st2' _ _ _ | with_reducible exact st3 _ _ _ _ | with_reducible exact st3' _ _ _ _ | with_reducible exact st3'' _ _ _ _)) | (refine (heap_alloc_old (by have := H5.out.sz; (try simp at this); omega)).trans ((H5.out.un _ (by simp <;> omega) (by simp <;> omega)).trans ?_); ((try rw [heap_drew]); first | with_reducible exact st1 _ _ | with_reducible exact st2 _ _ _ | with_reducible exact st2' _ _ _ | with_reducible exact st3 _ _ _ _ | with_reducible exact st3' _ _ _ _ | with_reducible exact st3'' _ _ _ _)))); have HBZ := Lib.hid hbx; obtain ⟨x0, x1, x2, xf⟩ := hbx; have y0 := xf 0; have y1 := xf 1; have y2 := xf 2; have y3 := lt_of_cell x0; clear xf) | skip))
        | (refine step_cp rfl (.tmp 30) (.tmp 32) rfl rfl (by ((try rw [heap_drew]); first | with_reducible exact st1 _ _ | with_reducible exact st2 _ _ _ | with_reducible exact st2' _ _ _ | with_reducible exact st3 _ _ _ _ | with_reducible exact st3' _ _ _ _ | with_reducible exact st3'' _ _ _ _)) w4 (by first | exact Nat.le_refl _ | exact Nat.le_add_right _ _ | omega | (simp <;> omega)) o.arcs ao ca (by simp [Act.eval]) (by first | exact ((Kept.refl w4).alloc _).drew | exact (((Kept.refl w4).alloc _).alloc _).drew | exact ((((Kept.refl w4).alloc _).alloc _).alloc _).drew) HOA.out HNA.out HLA.out ?_; intro ra rc w5 h5; have H5 := Lib.hid h5; clear h5))
    all_goals
      go_wp2_with fail
      go_meet
      first
        | exact ⟨_, ra, rb, rc, rd, rfl, cp_finA HGG4.out.2.2.2 H5.out H9.out (by first | exact Kept.refl _ | exact (Kept.refl _).alloc _ | exact ((Kept.refl _).alloc _).alloc _) (by have h5 := H5.out.sz; have h6 := H9.out.sz; (try simp at h5); (try simp at h6); (try simp) <;> omega) (by have h5 := H5.out.sz; have h6 := H9.out.sz; (try simp at h5); (try simp at h6); (try simp) <;> omega) (by have h5 := H5.out.sz; have h6 := H9.out.sz; (try simp at h5); (try simp at h6); (try simp) <;> omega) (by have h5 := H5.out.sz; have h6 := H9.out.sz; (try simp at h5); (try simp at h6); (try simp) <;> omega) (by have h5 := H5.out.sz; have h6 := H9.out.sz; (try simp at h5); (try simp at h6); (try simp) <;> omega)⟩
        | exact ⟨_, ra, rb, rc, rd, rfl, cp_finB HGG4.out.2.2.2 H5.out H9.out (by first | exact Kept.refl _ | exact (Kept.refl _).alloc _ | exact ((Kept.refl _).alloc _).alloc _) HBZ.out (by have h5 := H5.out.sz; have h6 := H9.out.sz; (try simp at h5); (try simp at h6); (try simp) <;> omega) (by have h5 := H5.out.sz; have h6 := H9.out.sz; (try simp at h5); (try simp at h6); (try simp) <;> omega) (by have h5 := H5.out.sz; have h6 := H9.out.sz; (try simp at h5); (try simp at h6); (try simp) <;> omega) (by have h5 := H5.out.sz; have h6 := H9.out.sz; (try simp at h5); (try simp at h6); (try simp) <;> omega) (by have h5 := H5.out.sz; have h6 := H9.out.sz; (try simp at h5); (try simp at h6); (try simp) <;> omega) (by have h5 := H5.out.sz; have h6 := H9.out.sz; (try simp at h5); (try simp at h6); (try simp) <;> omega) (by have h5 := H5.out.sz; have h6 := H9.out.sz; (try simp at h5); (try simp at h6); (try simp) <;> omega)⟩
  case rest =>
    clear q0 q1 q2 qb
    obtain ⟨bx, xa, ya, xc, yc, rfl, hbx, hbw, hk, hpb, hla, hlb⟩ := hcut
    have HPB := Lib.hid hpb
    have HK := Lib.hid (HK4.out.trans hk)
    have HB2C := Lib.hid (HB24.out.kept hk)
    have HBPC : Hid (ProbBox wc g1 p ap da bp db) := Lib.hid (HBP4.out.kept hk)
    have HGX : Hid (g1 ≠ bx ∧ g2 ≠ bx ∧ w.heap.size ≤ bx ∧ bx < wc.heap.size ∧ w.heap.size ≤ g2 ∧ w.heap.size ≤ g1 ∧ g2 < wc.heap.size) := Lib.hid (by have := HGG4.out; have := hk.size; refine ⟨?_, ?_, ?_, hbw, ?_, ?_, ?_⟩ <;> omega)
    have HXA := Lib.hid hla
    have HYB := Lib.hid hlb
    have HAR : Hid (∀ X, FrX wc X bx → Pairs X ap p.arcs) := Lib.hid fun X hf => (HP.out.arcs).frk HK.out hf HGX.out.2.2.1
    have HNR : Hid (∀ X, FrX wc X bx → Pairs X bp p.near) := Lib.hid fun X hf => (HP.out.near).frk HK.out hf HGX.out.2.2.1
    have HBB : Hid (∀ X, FrX wc X bx → ProbBox X g1 p ap da bp db) := Lib.hid fun X hf => HBPC.out.frx hf HGX.out.1
    have HFP : Hid (∀ ad, ap = some ad → p.arcs ≠ [] → ad.block < w.heap.size) := Lib.hid fun ad e hne => by
      obtain ⟨B, off, e', c0, -⟩ := HP.out.arcs 0 (List.length_pos_iff.2 hne)
      rw [e] at e'
      cases e'
      exact lt_of_cell c0
    have HFN : Hid (∀ ad, bp = some ad → p.near ≠ [] → ad.block < w.heap.size) := Lib.hid fun ad e hne => by
      obtain ⟨B, off, e', c0, -⟩ := HP.out.near 0 (List.length_pos_iff.2 hne)
      rw [e] at e'
      cases e'
      exact lt_of_cell c0
    have HU0 : Hid (uniP o.arcs (p.arcs.take 0) = o.arcs ∧ uniP o.near (p.near.take 0) = o.near) := Lib.hid ⟨rfl, rfl⟩
    have HUL : Hid (∀ k, (uniP o.arcs (p.arcs.take k)).length ≤ 1152 ∧ (uniP o.near (p.near.take k)).length ≤ 1152) := Lib.hid fun k => by
      have l1 := arcs_len HC1.out
      have l2 := arcs_len HC2.out
      have l3 := near_lenJ HC1.out
      have l4 := near_lenJ HC2.out
      have m1 := uniP_len o.arcs (p.arcs.take k)
      have m2 := uniP_len o.near (p.near.take k)
      have t1 := List.length_take_le' k p.arcs
      have t2 := List.length_take_le' k p.near
      omega
    have HRES : Hid (R = (⟨o.N, uniP o.arcs p.arcs, uniP o.near p.near⟩, 0)) := Lib.hid (by
      rw [← HR.out]
      unfold JoinR
      rw [if_neg (fun h => h HC1.out), if_neg (fun h => h HC2.out), if_neg (fun h => h HN.out)])
    have hla2 := arcs_len HC2.out
    have hln2 := near_lenJ HC2.out
    have HFX : Hid (FrX wc wc bx) := Lib.hid (FrX.refl _ _)
    clear hbx hbw hk hpb hla hlb HBPC HR HOA HOB HLA HLB
    go_wp2_with fail
    go_loopw [8] (fun i wr => ∃ (k : Nat) (xa : Option Addr) (xc : Nat), k ≤ p.arcs.length ∧ i = .int .i64 k ∧ Kept w wr ∧ FrX wc wr bx ∧ PBox wr bx o.N (.slice xa (uniP o.arcs (p.arcs.take k)).length xc) (.slice ya o.near.length yc) ∧ LsN wr bx g2 xa xc (uniP o.arcs (p.arcs.take k)) ∧ LsN wr bx g2 ya yc o.near) (fun i _ => p.arcs.length - (intOf i).toNat)
    case atStart => exact ⟨0, xa, xc, Nat.zero_le _, rfl, HK.out, HFX.out, by rw [HU0.out.1]; exact HPB.out, by rw [HU0.out.1]; exact HXA.out, HYB.out⟩
    case round =>
      obtain ⟨k, xa, xc, hk, rfl, hkr, hfr, hbr, hls, hly⟩ := hrel
      have HKR := Lib.hid hkr
      have HFR := Lib.hid hfr
      have HBR := Lib.hid hbr
      have HLS := Lib.hid hls
      have HLY := Lib.hid hly
      clear hkr hfr hbr hls hly
      obtain ⟨q0, q1, q2⟩ := HBB.out _ HFR.out
      have qb := lt_of_cell q0
      by_cases hlt : k < p.arcs.length
      case pos =>
        have HLT := Lib.hid hlt
        obtain ⟨y, hy, B, off, rfl, c0, c1⟩ := (HAR.out _ HFR.out).at hlt
        have HY := Lib.hid hy
        have HBne : Hid (B ≠ bx) := Lib.hid (by
          have h := HFP.out _ rfl (fun e => by rw [e] at hlt; simp at hlt)
          have := HGX.out
          show B ≠ bx
          simp only [] at h
          omega)
        clear hy
        obtain ⟨y1, y2⟩ := y
        simp only [] at c0 c1
        have cbl := lt_of_cell c0
        have i1 : ((k : Int) + 1 < (p.arcs.length : Int) + 1) := by omega
        have HST := Lib.hid (uniP_succ (A := o.arcs) HY.out)
        have HLB := Lib.hid (HUL.out k)
        have hF : Calls Try.prog 134 #[.slice xa (uniP o.arcs (p.arcs.take k)).length xc, .agg #[.int .i64 y1, .int .i64 y2]] wr.drew (InsP (insP (uniP o.arcs (p.arcs.take k)) (y1, y2)) xa wr.drew) := Rinsert_any (uniP o.arcs (p.arcs.take k)) xa xc (y1, y2) wr.drew (HLS.out.1.kept (Kept.refl _).drew) HLS.out.2.2.1 (fun ad e => by obtain ⟨B, off, e', -⟩ := HLS.out.2.2.2 ad e; exact ⟨B, off, e'⟩) HLS.out.2.1 (by have := HLB.out; omega)
        have HF := Lib.hid hF
        clear hF
        obtain ⟨p0, p1, p2, pf⟩ := HBR.out
        have pb := lt_of_cell p0
        clear pf
        go_upto_region 13 with fail
        refine region_tail 7 (by kernel_rfl) (by kernel_rfl) ?_
        simp only [List.take_succ_cons, List.take_zero, List.drop_succ_cons, List.drop_zero]
        iterate 7
          with_reducible refine wpStill_want ?_ (fun K hK => ?_)
          · rfl
          go_simp
          refine hK _ ?_
          clear hK K
        with_reducible refine wpStill_nil ?_
        go_wp2_with fail
        refine HF.out.mono ?_
        intro e w9 hins
        obtain ⟨za, zc, rfl, hls9, hk9⟩ := hins.lstN (HLS.out.kept (Kept.refl _).drew) (by have := HGX.out; have := HFR.out.size; show bx < wr.heap.size; omega) (by have := HGX.out; have := HFR.out.size; show g2 < wr.heap.size; omega)
        have hk9 := (Kept.refl wr).drew.trans hk9
        have HLS9 := Lib.hid hls9
        have HK9 := Lib.hid hk9
        have hb9 := HBR.out.kept hk9
        have HB9 := Lib.hid hb9
        obtain ⟨x0, x1, x2, xf⟩ := hb9
        have x3 := xf 1
        have x4 := lt_of_cell x0
        clear xf hins hls9 hk9
        rw [← HST.out] at HLS9 ⊢
        go_wp2
        go_roundw
        case measure => have := HLT.out; simp [intOf] <;> omega
        case rel =>
          have ht := HGX.out
          exact ⟨k + 1, za, zc, HLT.out, by go_num, (HKR.out.trans HK9.out).setCell (p := ⟨bx, 1, none⟩) ht.2.2.1 _, (HFR.out.kept HK9.out).setJ 1 _, HB9.out.set1 _, HLS9.out.set _, (HLY.out.kept HK9.out).set _⟩
      obtain rfl : k = p.arcs.length := by omega
      rw [List.take_length] at HBR HLS
      have HKA := Lib.hid HKR.out
      have HFA := Lib.hid HFR.out
      have HBA := Lib.hid HBR.out
      have HLX0 := Lib.hid HLS.out
      have HLY0 := Lib.hid HLY.out
      clear hk hlt HKR HFR HBR HLS HLY HAR HK HPB HXA HYB HFX
      obtain ⟨wq, hwq⟩ : ∃ x, x = wr := ⟨_, rfl⟩
      subst hwq
      go_wp2_with fail
      clear q0 q1 q2 qb
      go_loopw [9] (fun i wr => ∃ (k : Nat) (ya : Option Addr) (yc : Nat), k ≤ p.near.length ∧ i = .int .i64 k ∧ Kept w wr ∧ FrX wc wr bx ∧ PBox wr bx o.N (.slice xa (uniP o.arcs p.arcs).length xc) (.slice ya (uniP o.near (p.near.take k)).length yc) ∧ LsN wr bx g2 xa xc (uniP o.arcs p.arcs) ∧ LsN wr bx g2 ya yc (uniP o.near (p.near.take k))) (fun i _ => p.near.length - (intOf i).toNat)
      case atStart => exact ⟨0, ya, yc, Nat.zero_le _, rfl, HKA.out, HFA.out, by rw [HU0.out.2]; exact HBA.out, HLX0.out, by rw [HU0.out.2]; exact HLY0.out⟩
      case round =>
        obtain ⟨k, ya, yc, hk, rfl, hkr, hfr, hbr, hlx, hls⟩ := hrel
        have HKR := Lib.hid hkr
        have HFR := Lib.hid hfr
        have HBR := Lib.hid hbr
        have HLS := Lib.hid hls
        have HLX := Lib.hid hlx
        clear hkr hfr hbr hls hlx
        obtain ⟨q0, q1, q2⟩ := HBB.out _ HFR.out
        have qb := lt_of_cell q0
        by_cases hlt : k < p.near.length
        case pos =>
          have HLT := Lib.hid hlt
          obtain ⟨y, hy, B, off, rfl, c0, c1⟩ := (HNR.out _ HFR.out).at hlt
          have HY := Lib.hid hy
          have HBne : Hid (B ≠ bx) := Lib.hid (by
            have h := HFN.out _ rfl (fun e => by rw [e] at hlt; simp at hlt)
            have := HGX.out
            show B ≠ bx
            simp only [] at h
            omega)
          clear hy
          obtain ⟨y1, y2⟩ := y
          simp only [] at c0 c1
          have cbl := lt_of_cell c0
          have i1 : ((k : Int) + 1 < (p.near.length : Int) + 1) := by omega
          have HST := Lib.hid (uniP_succ (A := o.near) HY.out)
          have HLB := Lib.hid (HUL.out k)
          have hF : Calls Try.prog 134 #[.slice ya (uniP o.near (p.near.take k)).length yc, .agg #[.int .i64 y1, .int .i64 y2]] wr.drew (InsP (insP (uniP o.near (p.near.take k)) (y1, y2)) ya wr.drew) := Rinsert_any (uniP o.near (p.near.take k)) ya yc (y1, y2) wr.drew (HLS.out.1.kept (Kept.refl _).drew) HLS.out.2.2.1 (fun ad e => by obtain ⟨B, off, e', -⟩ := HLS.out.2.2.2 ad e; exact ⟨B, off, e'⟩) HLS.out.2.1 (by have := HLB.out; omega)
          have HF := Lib.hid hF
          clear hF
          obtain ⟨p0, p1, p2, pf⟩ := HBR.out
          have pb := lt_of_cell p0
          clear pf
          go_upto_region 17 with fail
          refine region_tail 7 (by kernel_rfl) (by kernel_rfl) ?_
          simp only [List.take_succ_cons, List.take_zero, List.drop_succ_cons, List.drop_zero]
          iterate 7
            with_reducible refine wpStill_want ?_ (fun K hK => ?_)
            · rfl
            go_simp
            refine hK _ ?_
            clear hK K
          with_reducible refine wpStill_nil ?_
          go_wp2_with fail
          refine HF.out.mono ?_
          intro e w9 hins
          obtain ⟨za, zc, rfl, hls9, hk9⟩ := hins.lstN (HLS.out.kept (Kept.refl _).drew) (by have := HGX.out; have := HFR.out.size; show bx < wr.heap.size; omega) (by have := HGX.out; have := HFR.out.size; show g2 < wr.heap.size; omega)
          have hk9 := (Kept.refl wr).drew.trans hk9
          have HLS9 := Lib.hid hls9
          have HK9 := Lib.hid hk9
          have hb9 := HBR.out.kept hk9
          have HB9 := Lib.hid hb9
          obtain ⟨x0, x1, x2, xf⟩ := hb9
          have x3 := xf 2
          have x4 := lt_of_cell x0
          clear xf hins hls9 hk9
          rw [← HST.out] at HLS9 ⊢
          go_wp2
          go_roundw
          case measure => have := HLT.out; simp [intOf] <;> omega
          case rel =>
            have ht := HGX.out
            exact ⟨k + 1, za, zc, HLT.out, by go_num, (HKR.out.trans HK9.out).setCell (p := ⟨bx, 2, none⟩) ht.2.2.1 _, (HFR.out.kept HK9.out).setJ 2 _, HB9.out.setB2 _, (HLX.out.kept HK9.out).set _, HLS9.out.set _⟩
        obtain rfl : k = p.near.length := by omega
        rw [List.take_length] at HBR HLS
        clear hk hlt
        have HP9 := Lib.hid (HB2C.out.fr HFR.out HGX.out.2.1)
        obtain ⟨p0, p1, p2, pf⟩ := HBR.out
        have pb := lt_of_cell p0
        obtain ⟨s0, s1, s2, sf⟩ := HP9.out
        have f0 := sf 0
        have f1 := sf 1
        have f2 := sf 2
        have sb := lt_of_cell s0
        clear pf sf
        have HB9 := Lib.hid (HP9.out.set o.N (.slice xa (uniP o.arcs p.arcs).length xc) (.slice ya (uniP o.near p.near).length yc))
        go_wp2
        refine bodyPost_ret (results_cell_tmp rfl _ _ ⟨g2, 0, none⟩ rfl _ (load24 HB9.out.c0 HB9.out.c1 HB9.out.c2)) rfl ?_
        have ht := HGX.out
        rw [HRES.out]
        exact ⟨xa, xc, ya, yc, rfl, (((HLX.out.setG _).setG _).setG _).1, (((HLS.out.setG _).setG _).setG _).1, ((HKR.out.setCell (p := ⟨g2, 0, none⟩) ht.2.2.2.2.1 _).setCell (p := ⟨g2, 1, none⟩) ht.2.2.2.2.1 _).setCell (p := ⟨g2, 2, none⟩) ht.2.2.2.2.1 _⟩
end Go.Proofs.Yteljjkghjbofnaa
