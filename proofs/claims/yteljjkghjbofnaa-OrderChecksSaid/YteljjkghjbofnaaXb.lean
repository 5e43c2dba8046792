/- orders: the closure that walks through all orders. -/
import Derived.Test.YteljjkghjbofnaaXa
import Derived.Test.YteljjkghjbofnaaWw
import Derived.Test.YteljjkghjbofnaaWo
import Derived.Maps.AppendAt
set_option maxRecDepth 100000
namespace Go.Proofs.Yteljjkghjbofnaa
open Go Go.Proofs Go.RowKit
attribute [local go_sem] Oper.semAt_some

def walkV (bl ow oy bw : Nat) : Value := .func (.func 142) #[] #[.pointer (some ⟨bl, 0, none⟩), .pointer (some ⟨ow, 0, none⟩), .pointer (some ⟨oy, 0, none⟩), .pointer (some ⟨bw, 0, none⟩)]

/-- Whatever lay at B or above, T's blocks apart, lies as it lay. -/
structure Wk (B : Nat) (T : Nat → Prop) (X Y : World) : Prop where
  size : X.heap.size ≤ Y.heap.size
  same : ∀ (k : Nat), B ≤ k → k < X.heap.size → ¬ T k → Y.heap[k]? = X.heap[k]?

section
variable {B : Nat} {T T' : Nat → Prop} {X Y Z : World}
theorem Wk.refl (B : Nat) (T : Nat → Prop) (X : World) : Wk B T X X := ⟨Nat.le_refl _, fun _ _ _ _ => rfl⟩
theorem Wk.trans (h : Wk B T X Y) (k : Wk B T' Y Z) (ht : ∀ r, T' r → T r ∨ X.heap.size ≤ r) : Wk B T X Z :=
  ⟨Nat.le_trans h.size k.size, fun i hi hx hn => (k.same i hi (Nat.lt_of_lt_of_le hx h.size) (fun h' => (ht i h').elim hn (fun h2 => by omega))).trans (h.same i hi hx hn)⟩
theorem Wk.of_kept (h : Kept X Y) : Wk B T X Y := ⟨h.size, fun k _ hk _ => h.below.block k hk⟩
theorem Wk.of_grownBy {row : Option Nat} (h : X.grownBy Y row) (hr : ∀ r, row = some r → T r ∨ X.heap.size ≤ r) : Wk B T X Y := ⟨h.size, fun k _ hk hn => h.block k hk (fun e => (hr k e.symm).elim hn (fun h2 => by omega))⟩
theorem Wk.mono (h : Wk B T X Y) (ht : ∀ r, T r → T' r ∨ X.heap.size ≤ r) : Wk B T' X Y := ⟨h.size, fun k hk hx hn => h.same k hk hx (fun h' => (ht k h').elim hn (fun h2 => by omega))⟩
theorem Wk.cell (h : Wk B T X Y) {k o : Nat} {v : Value} (hc : X.cell? ⟨k, o, none⟩ = some v) (hk : B ≤ k) (hn : ¬ T k) : Y.cell? ⟨k, o, none⟩ = some v :=
  (World.cell?_of_block (a := ⟨k, o, none⟩) (h.same k hk (lt_of_cell hc) hn)).trans hc
theorem Wk.frozen (h : Wk B T X Y) {k o : Nat} (hlt : k < X.heap.size) (hk : B ≤ k) (hn : ¬ T k) : Y.frozen? ⟨k, o, none⟩ = X.frozen? ⟨k, o, none⟩ :=
  World.frozen?_of_block (a := ⟨k, o, none⟩) (h.same k hk hlt hn)

/-- What the caller of orders lays down between two rounds: J; Jx: a round has said 'no more'. -/
structure Host (B b L : Nat) (W : Web) (J Jx : (Nat → Prop) → List (List Int) → World → Prop) : Prop where
  turn : ∀ {T T' : Nat → Prop} {pre : List (List Int)} {X Y : World} {row : Option Nat}, J T pre X → X.grownBy Y row → (∀ r, row = some r → T r ∨ (B ≤ r ∧ ∃ o : Obj, X.heap[r]? = some o ∧ o.isCells = false)) → (∀ r, T' r → T r ∨ (X.heap.size ≤ r ∧ r < Y.heap.size)) → J T' pre Y
  turnx : ∀ {T T' : Nat → Prop} {pre : List (List Int)} {X Y : World} {row : Option Nat}, Jx T pre X → X.grownBy Y row → (∀ r, row = some r → T r ∨ (B ≤ r ∧ ∃ o : Obj, X.heap[r]? = some o ∧ o.isCells = false)) → (∀ r, T' r → T r ∨ (X.heap.size ≤ r ∧ r < Y.heap.size)) → Jx T' pre Y
  web : ∀ {T : Nat → Prop} {pre : List (List Int)} {X : World}, J T pre X → WebAt X b W
  yld : ∀ {T : Nat → Prop} {pre : List (List Int)} {l : List Int} {g c : Nat} {X : World}, J T pre X → T g → Ints X (some ⟨g, 0, none⟩) l → l.length = W.n → l.length ≤ c → (∀ p ∈ l, 0 ≤ p ∧ p < (W.n : Int)) → l.Nodup →
    YieldAt Fence.wide 8 Try.prog L #[.slice (some ⟨g, 0, none⟩) l.length c] X (fun e Y => (e = .returned (.bool true) ∧ J T (pre ++ [l]) Y ∧ Wk B (fun _ => False) X Y) ∨ (e = .returned (.bool false) ∧ Jx T (pre ++ [l]) Y ∧ Wk B (fun _ => False) X Y))

theorem OwnI.grownNe {v : Value} {l : List Int} {row : Option Nat} (h : OwnI X B v l) (hg : X.grownBy Y row) (hr : ∀ k, v.ownBlock = some k → some k ≠ row) : OwnI Y B v l := by
  refine ⟨h.1, ?_⟩
  rcases h.2 with hn | ⟨g, cap, cur, rfl, hb, hgg, rest⟩
  · exact .inl hn
  · exact .inr ⟨g, cap, cur, rfl, hb, (hg.block g (Array.getElem?_eq_some_iff.1 hgg).1 (hr g rfl)).trans hgg, rest⟩

/-- The blocks that the iterator turns: its variable's, the slice's, those of the results that are under way. -/
def TR (bl : Nat) (v : Value) (R : Nat → Prop) (r : Nat) : Prop := r = bl ∨ v.ownBlock = some r ∨ R r

/-- What the iterator itself has in memory: vb: what its variable l holds; v: the slice of the list l. -/
structure It (B bl ow oy bw b L : Nat) (R : Nat → Prop) (vb v : Value) (l : List Int) (X : World) : Prop where
  cw : X.cell? ⟨ow, 0, none⟩ = some (.pointer (some ⟨b, 0, none⟩))
  cy : X.cell? ⟨oy, 0, none⟩ = some (.func (.yield L) #[] #[])
  cb : X.cell? ⟨bw, 0, none⟩ = some (walkV bl ow oy bw)
  cv : X.cell? ⟨bl, 0, none⟩ = some vb
  fv : X.frozen? ⟨bl, 0, none⟩ = false
  own : OwnI X B v l
  tv : ∀ r, v.ownBlock = some r → r ≠ bl ∧ ¬ R r ∧ r ≠ ow ∧ r ≠ oy ∧ r ≠ bw
  rc : ∀ r, R r → B ≤ r ∧ r ≠ bl ∧ r ≠ ow ∧ r ≠ oy ∧ r ≠ bw ∧ (∃ u, X.cell? ⟨r, 0, none⟩ = some u) ∧ X.frozen? ⟨r, 0, none⟩ = false
  n : B ≤ bl ∧ B ≤ ow ∧ B ≤ oy ∧ B ≤ bw ∧ bl ≠ ow ∧ bl ≠ oy ∧ bl ≠ bw

variable {bl ow oy bw b L : Nat} {R : Nat → Prop} {vb v : Value} {l : List Int}
theorem It.own_lt (h : It B bl ow oy bw b L R vb v l X) {r : Nat} (e : v.ownBlock = some r) : B ≤ r ∧ r < X.heap.size := h.own.lt r e
theorem It.tr_lt (h : It B bl ow oy bw b L R vb v l X) {r : Nat} (hr : TR bl v R r) : B ≤ r ∧ r < X.heap.size := by
  rcases hr with rfl | e | hr
  · exact ⟨h.n.1, lt_of_cell h.cv⟩
  · exact h.own_lt e
  · obtain ⟨h1, _, _, _, _, ⟨u, hu⟩, _⟩ := h.rc r hr
    exact ⟨h1, lt_of_cell hu⟩
theorem It.tr_cells (h : It B bl ow oy bw b L R vb v l X) {r : Nat} {o : Obj} (hr : TR bl v R r) (ho : X.heap[r]? = some o) : o.isCells = true := by
  have key : ∀ {k : Nat} {u : Value}, X.cell? ⟨k, 0, none⟩ = some u → X.heap[k]? = some o → o.isCells = true := fun hc hk => by
    obtain ⟨o', ho', hc'⟩ := cells_of_cell hc
    rw [hk] at ho'
    cases ho'
    exact hc'
  rcases hr with rfl | e | hr
  · exact key h.cv ho
  · exact own_row_cells h.own r o e ho
  · obtain ⟨_, _, _, _, _, ⟨u, hu⟩, _⟩ := h.rc r hr
    exact key hu ho
theorem It.tr_n (h : It B bl ow oy bw b L R vb v l X) : ¬ TR bl v R ow ∧ ¬ TR bl v R oy ∧ ¬ TR bl v R bw := by
  obtain ⟨_, _, _, _, n1, n2, n3⟩ := h.n
  refine ⟨fun hr => ?_, fun hr => ?_, fun hr => ?_⟩ <;> rcases hr with e | e | hr
  · exact n1 e.symm
  · exact (h.tv _ e).2.2.1 rfl
  · exact (h.rc _ hr).2.2.1 rfl
  · exact n2 e.symm
  · exact (h.tv _ e).2.2.2.1 rfl
  · exact (h.rc _ hr).2.2.2.1 rfl
  · exact n3 e.symm
  · exact (h.tv _ e).2.2.2.2 rfl
  · exact (h.rc _ hr).2.2.2.2.1 rfl
/-- A step that turns no block of the iterator's. -/
theorem It.grown {row : Option Nat} (h : It B bl ow oy bw b L R vb v l X) (hg : X.grownBy Y row) (hr : ∀ r, row = some r → ¬ TR bl v R r ∧ r ≠ ow ∧ r ≠ oy ∧ r ≠ bw) : It B bl ow oy bw b L R vb v l Y :=
  ⟨hg.cell h.cw (fun e => (hr ow e.symm).2.1 rfl), hg.cell h.cy (fun e => (hr oy e.symm).2.2.1 rfl), hg.cell h.cb (fun e => (hr bw e.symm).2.2.2 rfl), hg.cell h.cv (fun e => (hr bl e.symm).1 (.inl rfl)),
   (World.frozen?_of_block (a := ⟨bl, 0, none⟩) (hg.block bl (lt_of_cell h.cv) (fun e => (hr bl e.symm).1 (.inl rfl)))).trans h.fv,
   h.own.grownNe hg (fun k hk e => (hr k e.symm).1 (.inr (.inl hk))), h.tv, fun r hr' => by
    obtain ⟨h1, h2, h3, h4, h5, ⟨u, hu⟩, hf⟩ := h.rc r hr'
    have hne : some r ≠ row := fun e => (hr r e.symm).1 (.inr (.inr hr'))
    exact ⟨h1, h2, h3, h4, h5, ⟨u, hg.cell hu hne⟩, (World.frozen?_of_block (a := ⟨r, 0, none⟩) (hg.block r (lt_of_cell hu) hne)).trans hf⟩, h.n⟩
theorem It.kept (h : It B bl ow oy bw b L R vb v l X) (hk : Kept X Y) : It B bl ow oy bw b L R vb v l Y :=
  h.grown (grownBy_kept (World.grownBy.refl X none) hk) (fun r e => by cases e)
theorem It.wk (h : It B bl ow oy bw b L R vb v l X) (hk : Wk B (fun _ => False) X Y) : It B bl ow oy bw b L R vb v l Y := by
  refine ⟨hk.cell h.cw h.n.2.1 id, hk.cell h.cy h.n.2.2.1 id, hk.cell h.cb h.n.2.2.2.1 id, hk.cell h.cv h.n.1 id, (hk.frozen (lt_of_cell h.cv) h.n.1 id).trans h.fv, ?_, h.tv, fun r hr' => ?_, h.n⟩
  · refine ⟨h.own.1, ?_⟩
    rcases h.own.2 with hn | ⟨g, cap, cur, rfl, hb, hgg, rest⟩
    · exact .inl hn
    · exact .inr ⟨g, cap, cur, rfl, hb, (hk.same g hb (Array.getElem?_eq_some_iff.1 hgg).1 id).trans hgg, rest⟩
  · obtain ⟨h1, h2, h3, h4, h5, ⟨u, hu⟩, hf⟩ := h.rc r hr'
    exact ⟨h1, h2, h3, h4, h5, ⟨u, hk.cell hu h1 id⟩, (hk.frozen (lt_of_cell hu) h1 id).trans hf⟩
/-- One result more is under way. -/
theorem It.more (h : It B bl ow oy bw b L R vb v l X) {p : Nat} (hp : B ≤ p) (h1 : ¬ TR bl v R p ∧ p ≠ ow ∧ p ≠ oy ∧ p ≠ bw) {u : Value} (hu : X.cell? ⟨p, 0, none⟩ = some u) (hf : X.frozen? ⟨p, 0, none⟩ = false) : It B bl ow oy bw b L (fun r => R r ∨ r = p) vb v l X :=
  ⟨h.cw, h.cy, h.cb, h.cv, h.fv, h.own, fun r e => ⟨(h.tv r e).1, fun hr => hr.elim (h.tv r e).2.1 (fun e2 => by subst e2; exact h1.1 (.inr (.inl e))), (h.tv r e).2.2⟩,
   fun r hr => hr.elim (h.rc r) (fun e => by subst e; exact ⟨hp, fun e => h1.1 (.inl e), h1.2.1, h1.2.2.1, h1.2.2.2, ⟨u, hu⟩, hf⟩), h.n⟩
theorem It.less {R' : Nat → Prop} (h : It B bl ow oy bw b L R vb v l X) (hr : ∀ r, R' r → R r) : It B bl ow oy bw b L R' vb v l X :=
  ⟨h.cw, h.cy, h.cb, h.cv, h.fv, h.own, fun r e => ⟨(h.tv r e).1, fun h' => (h.tv r e).2.1 (hr r h'), (h.tv r e).2.2⟩, fun r h' => h.rc r (hr r h'), h.n⟩
/-- A result is stored. -/
theorem It.setR (h : It B bl ow oy bw b L R vb v l X) {p : Nat} (hp : R p) (u : Value) : It B bl ow oy bw b L R vb v l (X.setCell ⟨p, 0, none⟩ u) := by
  have hg := grownBy_setCell' X p u
  obtain ⟨p1, p2, p3, p4, p5, ⟨pu, hpu⟩, pf⟩ := h.rc p hp
  refine ⟨hg.cell h.cw (fun e => p3 (Option.some.inj e).symm), hg.cell h.cy (fun e => p4 (Option.some.inj e).symm), hg.cell h.cb (fun e => p5 (Option.some.inj e).symm), hg.cell h.cv (fun e => p2 (Option.some.inj e).symm), by rw [World.frozen?_setCell]; exact h.fv,
    h.own.grownNe hg (fun k hk e => by cases e; exact (h.tv _ hk).2.1 hp), h.tv, fun r hr => ?_, h.n⟩
  obtain ⟨h1, h2, h3, h4, h5, ⟨u', hu⟩, hf⟩ := h.rc r hr
  refine ⟨h1, h2, h3, h4, h5, ?_, by rw [World.frozen?_setCell]; exact hf⟩
  by_cases e : r = p
  · subst e; exact ⟨u, cell_set_same hu⟩
  · exact ⟨u', cell_set_block hu e⟩
/-- The variable gets the slice. -/
theorem It.store (h : It B bl ow oy bw b L R vb v l X) : It B bl ow oy bw b L R v v l (X.setCell ⟨bl, 0, none⟩ v) := by
  have hg := grownBy_setCell' X bl v
  obtain ⟨_, _, _, _, n1, n2, n3⟩ := h.n
  refine ⟨hg.cell h.cw (fun e => n1 (Option.some.inj e).symm), hg.cell h.cy (fun e => n2 (Option.some.inj e).symm), hg.cell h.cb (fun e => n3 (Option.some.inj e).symm), cell_set_same h.cv, by rw [World.frozen?_setCell]; exact h.fv,
    h.own.grownNe hg (fun k hk e => (h.tv k hk).1 (Option.some.inj e)), h.tv, fun r hr => ?_, h.n⟩
  obtain ⟨h1, h2, h3, h4, h5, ⟨u', hu⟩, hf⟩ := h.rc r hr
  exact ⟨h1, h2, h3, h4, h5, ⟨u', cell_set_block hu h2⟩, by rw [World.frozen?_setCell]; exact hf⟩
/-- One more element: v' is the longer slice. -/
theorem It.app {v' : Value} {l' : List Int} (h : It B bl ow oy bw b L R vb v l X) (hg : X.grownBy Y v.ownBlock) (hown : OwnI Y B v' l') (hat : v'.ownBlock = v.ownBlock ∨ v'.ownBlock = some X.heap.size) :
    It B bl ow oy bw b L R vb v' l' Y := by
  refine ⟨hg.cell h.cw (fun e => (h.tv _ e.symm).2.2.1 rfl), hg.cell h.cy (fun e => (h.tv _ e.symm).2.2.2.1 rfl), hg.cell h.cb (fun e => (h.tv _ e.symm).2.2.2.2 rfl), hg.cell h.cv (fun e => (h.tv _ e.symm).1 rfl),
    (World.frozen?_of_block (a := ⟨bl, 0, none⟩) (hg.block bl (lt_of_cell h.cv) (fun e => (h.tv _ e.symm).1 rfl))).trans h.fv, hown, fun r e => ?_, fun r hr => ?_, h.n⟩
  · rcases hat with h1 | h1
    · rw [h1] at e; exact h.tv r e
    · rw [h1] at e
      have e := Option.some.inj e
      subst e
      have l1 := lt_of_cell h.cw
      have l2 := lt_of_cell h.cy
      have l3 := lt_of_cell h.cb
      have l4 := lt_of_cell h.cv
      exact ⟨by omega, fun hr => by obtain ⟨_, _, _, _, _, ⟨u, hu⟩, _⟩ := h.rc _ hr; have := lt_of_cell hu; omega, by omega, by omega, by omega⟩
  · obtain ⟨h1, h2, h3, h4, h5, ⟨u, hu⟩, hf⟩ := h.rc r hr
    have hne : some r ≠ v.ownBlock := fun e => (h.tv r e.symm).2.1 hr
    exact ⟨h1, h2, h3, h4, h5, ⟨u, hg.cell hu hne⟩, (World.frozen?_of_block (a := ⟨r, 0, none⟩) (hg.block r (lt_of_cell hu) hne)).trans hf⟩
/-- Non-cells lie as they lay. -/
theorem It.keeps (h : It B bl ow oy bw b L R vb v l X) (hk : Wk B (TR bl v R) X Y) {B' : Nat} (hB : B ≤ B') : KeepsFrom B' X Y :=
  ⟨hk.size, fun k o hk' h0 ho => (hk.same k (by omega) (Array.getElem?_eq_some_iff.1 h0).1 (fun hr => by rw [h.tr_cells hr h0] at ho; cases ho)).trans h0⟩
end

/-- The last element is taken off. -/
theorem OwnI.pop {X : World} {B g n c : Nat} {l : List Int} {p : Int} (h : OwnI X B (.slice (some ⟨g, 0, none⟩) n c) (l ++ [p])) : OwnI X B (.slice (some ⟨g, 0, none⟩) l.length c) l := by
  refine ⟨by simp, .inr ?_⟩
  rcases h.2 with ⟨e, _⟩ | ⟨g', cap, cur, e, hb, hgg, hnc, hcm, hcs, htake⟩
  · cases e
  · simp only [Value.slice.injEq, Option.some.injEq, Addr.mk.injEq, and_true] at e
    obtain ⟨rfl, -, rfl⟩ := e
    refine ⟨g, c, cur, rfl, hb, hgg, by simp at hnc; omega, hcm, hcs, ?_⟩
    have e2 : cur.toList.take (l.length * 1) = (cur.toList.take ((l ++ [p]).length * 1)).take l.length := by
      rw [List.take_take, Nat.mul_one, Nat.mul_one, List.length_append]
      congr 1
      simp
    rw [e2, htake, List.map_append, List.take_append_of_le_length (by simp)]
    exact List.take_of_length_le (by simp)


def Ends (B bl ow oy bw b L : Nat) (J Jx : (Nat → Prop) → List (List Int) → World → Prop) (R : Nat → Prop) (v : Value) (pre all : List (List Int)) (l : List Int) (X : World) (e : Ending) (Y : World) : Prop :=
  (e = .returned (.bool true) ∧ ∃ v' : Value, (∀ r, v'.ownBlock = some r → v.ownBlock = some r ∨ X.heap.size ≤ r) ∧ It B bl ow oy bw b L R v' v' l Y ∧ J (TR bl v' R) (pre ++ all) Y ∧ Wk B (TR bl v R) X Y) ∨
  (e = .returned (.bool false) ∧ ∃ (T' : Nat → Prop) (q : List (List Int)), (∀ r, R r → T' r) ∧ (∀ r, T' r → TR bl v R r ∨ X.heap.size ≤ r) ∧ q <+: all ∧ Jx T' (pre ++ q) Y ∧ (∀ r, R r → (∃ u, Y.cell? ⟨r, 0, none⟩ = some u) ∧ Y.frozen? ⟨r, 0, none⟩ = false) ∧ Wk B (TR bl v R) X Y)

theorem load_bool {w : World} {a : Addr} {x : Bool} (h : w.cell? a = some (.bool x)) : (loadVar 4 a).run Try.prog w = .ok (.bool x) w := by
  simp [go_sem, h]

set_option maxHeartbeats 1600000 in
theorem walk_leaf (B bl ow oy bw b L : Nat) (W : Web) (hn0 : 0 < W.n) (J Jx : (Nat → Prop) → List (List Int) → World → Prop) (host : Host B b L W J Jx) (l : List Int) (v : Value) (R : Nat → Prop) (pre : List (List Int)) (X : World)
    (hl : l.length = W.n) (hin : ∀ p ∈ l, 0 ≤ p ∧ p < (W.n : Int)) (hnd : l.Nodup) (hit : It B bl ow oy bw b L R v v l X) (hj : J (TR bl v R) pre X) :
    Calls Try.prog 142 #[.int .u32 (sI (setS l)), .pointer (some ⟨bl, 0, none⟩), .pointer (some ⟨ow, 0, none⟩), .pointer (some ⟨oy, 0, none⟩), .pointer (some ⟨bw, 0, none⟩)] X (Ends B bl ow oy bw b L J Jx R v pre [l] l X) := by
  have HIT := Lib.hid hit
  have HJ := Lib.hid hj
  have HL := Lib.hid hl
  have HIN := Lib.hid hin
  have HND := Lib.hid hnd
  have HHOST := Lib.hid host
  obtain ⟨ao, c, hv, hc, hints⟩ := hit.own.slice
  obtain ⟨g, rfl⟩ : ∃ g, ao = some ⟨g, 0, none⟩ := by
    rcases hit.own.2 with ⟨e, h0⟩ | ⟨g, cap, cur, e, _⟩
    · rw [hl] at h0; omega
    · rw [hv] at e
      simp only [Value.slice.injEq] at e
      exact ⟨g, e.1⟩
  subst hv
  rw [hl] at hc
  have HINTS := Lib.hid hints
  have HC := Lib.hid hc
  have c1 := hit.cw
  have c2 := hit.cy
  have c4 := hit.cv
  rw [hl] at c4
  have c5 := (host.web hj).n
  have hB : B ≤ X.heap.size := Nat.le_trans hit.n.1 (Nat.le_of_lt (lt_of_cell hit.cv))
  have hbl := lt_of_cell c4
  have hlow := lt_of_cell c1
  have hloy := lt_of_cell c2
  have hlb := lt_of_cell c5
  have hlbw := lt_of_cell hit.cb
  clear hit hj hl hin hnd host hints hc
  refine calls_of_wp_marks Try.func142 rfl ?_
  simp only [Try.ntmps142, List.size_toArray, List.length_cons, List.length_nil, Nat.reduceAdd, Nat.reduceSub, Array.replicate_succ, Array.replicate_zero, List.push_toArray, List.append_toArray, List.nil_append, List.cons_append]
  have hwf : ∀ f : FuncId, Fence.wide.fn f := fun _ => trivial
  have hx1 : Kept X (((X.alloc (.cells #[.int .u32 (sI (setS l))] 93)).alloc (.cells #[.bool false] 4)).drew) := (((Kept.refl X).alloc _).alloc _).drew
  have hz1 : (((X.alloc (.cells #[.int .u32 (sI (setS l))] 93)).alloc (.cells #[.bool false] 4)).drew).heap.size = X.heap.size + 2 := by simp
  have hc6 : (((X.alloc (.cells #[.int .u32 (sI (setS l))] 93)).alloc (.cells #[.bool false] 4)).drew).cell? ⟨X.heap.size + 1, 0, none⟩ = some (.bool false) := by simp [go_sem]
  have hf6 : (((X.alloc (.cells #[.int .u32 (sI (setS l))] 93)).alloc (.cells #[.bool false] 4)).drew).frozen? ⟨X.heap.size + 1, 0, none⟩ = false := by simp [go_sem]
  have hg1 : X.grownBy (((X.alloc (.cells #[.int .u32 (sI (setS l))] 93)).alloc (.cells #[.bool false] 4)).drew) none := grownBy_kept (World.grownBy.refl X none) hx1
  have hj1 := HHOST.out.turn (T' := TR bl (.slice (some ⟨g, 0, none⟩) l.length c) (fun r => R r ∨ r = X.heap.size + 1)) HJ.out hg1 (fun r e => by cases e) (fun r h => by
    rcases h with h | h | h | h
    · exact .inl (.inl h)
    · exact .inl (.inr (.inl h))
    · exact .inl (.inr (.inr h))
    · exact .inr (by rw [hz1]; omega))
  have hit1 := (HIT.out.kept hx1).more (p := X.heap.size + 1) (by omega) ⟨fun h => by have := (HIT.out.tr_lt h).2; omega, by omega, by omega, by omega⟩ hc6 hf6
  have hy := HHOST.out.yld hj1 (.inr (.inl rfl)) (HINTS.out.kept hx1) HL.out (by rw [HL.out]; exact HC.out) HIN.out HND.out
  rw [HL.out] at hy
  obtain ⟨fn, tmps, assign, body, hyl, hR⟩ := hy
  have HX1 := Lib.hid hx1
  have HZ1 := Lib.hid hz1
  have HC6 := Lib.hid hc6
  have HF6 := Lib.hid hf6
  have HI1 := Lib.hid hit1
  clear hx1 hz1 hc6 hf6 hg1 hj1 hit1
  refine (wpIn_wide (n := 9)).1 ?_
  gi_wp2_with fail
  refine wpIn_wide.2 ?_
  refine region_tail 6 (by kernel_rfl) (by kernel_rfl) ?_
  simp only [List.take_succ_cons, List.take_zero, List.drop_succ_cons, List.drop_zero]
  repeat still_step
  refine wpStill_nil ?_
  go_wp2
  gi_wp2_with fail
  refine hR.mono ?_
  clear hyl hR
  have fin : ∀ (Y : World), Wk B (fun _ => False) (((X.alloc (.cells #[.int .u32 (sI (setS l))] 93)).alloc (.cells #[.bool false] 4)).drew) Y → Y.cell? ⟨X.heap.size + 1, 0, none⟩ = some (.bool false) ∧ Y.frozen? ⟨X.heap.size + 1, 0, none⟩ = false ∧ X.heap.size + 1 < Y.heap.size := fun Y hk =>
    ⟨hk.cell HC6.out (by omega) id, (hk.frozen (lt_of_cell HC6.out) (by omega) id).trans HF6.out, Nat.lt_of_lt_of_le (lt_of_cell HC6.out) hk.size⟩
  have FIN := Lib.hid fin
  clear fin
  rintro e Y (⟨rfl, hJ2, hk2⟩ | ⟨rfl, hJ2, hk2⟩)
  · obtain ⟨d1, d2, d3⟩ := FIN.out Y hk2
    have HK2 := Lib.hid hk2
    have HJ2 := Lib.hid hJ2
    clear hk2 hJ2
    gi_wp2
    refine ⟨_, results_cell rfl _ _ ⟨X.heap.size + 1, 0, none⟩ rfl (.bool true) (load_bool (cell_set_same d1)), .inl ⟨rfl, .slice (some ⟨g, 0, none⟩) l.length c, fun r h => .inl h, ?_, ?_, ?_⟩⟩
    · exact ((HI1.out.wk HK2.out).setR (p := X.heap.size + 1) (.inr rfl) _).less (fun r h => .inl h)
    · exact HHOST.out.turn HJ2.out (grownBy_setCell' Y (X.heap.size + 1) _) (fun r e => by cases e; exact .inl (.inr (.inr (.inr rfl)))) (fun r h => .inl (h.imp id (fun h => h.imp id .inl)))
    · exact ((Wk.of_kept HX1.out).trans (T' := fun _ => False) HK2.out (fun r h => h.elim)).trans (T' := fun r => r = X.heap.size + 1) (Wk.of_grownBy (grownBy_setCell' Y (X.heap.size + 1) _) (fun r e => by cases e; exact .inl rfl)) (fun r h => .inr (by omega))
  · obtain ⟨d1, d2, d3⟩ := FIN.out Y hk2
    have HK2 := Lib.hid hk2
    have HJ2 := Lib.hid hJ2
    clear hk2 hJ2
    gi_wp2
    refine ⟨_, results_cell rfl _ _ ⟨X.heap.size + 1, 0, none⟩ rfl (.bool false) (load_bool (cell_set_same d1)), .inr ⟨rfl, TR bl (.slice (some ⟨g, 0, none⟩) l.length c) (fun r => R r ∨ r = X.heap.size + 1), [l], fun r h => .inr (.inr (.inl h)), fun r h => ?_, List.prefix_refl _, ?_, fun r h => ?_, ?_⟩⟩
    · rcases h with h | h | h | h
      · exact .inl (.inl h)
      · exact .inl (.inr (.inl h))
      · exact .inl (.inr (.inr h))
      · exact .inr (by omega)
    · exact HHOST.out.turnx HJ2.out (grownBy_setCell' Y (X.heap.size + 1) _) (fun r e => by cases e; exact .inl (.inr (.inr (.inr rfl)))) (fun r h => .inl h)
    · exact (((HI1.out.wk HK2.out).setR (p := X.heap.size + 1) (.inr rfl) _).rc r (.inl h)).2.2.2.2.2
    · exact ((Wk.of_kept HX1.out).trans (T' := fun _ => False) HK2.out (fun r h => h.elim)).trans (T' := fun r => r = X.heap.size + 1) (Wk.of_grownBy (grownBy_setCell' Y (X.heap.size + 1) _) (fun r e => by cases e; exact .inl rfl)) (fun r h => .inr (by omega))
end Go.Proofs.Yteljjkghjbofnaa
