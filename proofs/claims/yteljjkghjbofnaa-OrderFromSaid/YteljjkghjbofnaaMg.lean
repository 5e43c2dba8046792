/- A range over a function whose iterator hands out slices of its own: one round; the statement. -/
import Derived.Test.YteljjkghjbofnaaMc
import Derived.Test.YteljjkghjbofnaaMf
import Derived.Maps.AppendAt
import Derived.Test.YteljjkghjbofnaaMb
import Derived.Test.YteljjkghjbofnaaMe
/-! A range over a function whose iterator hands out slices of its own: one round; the statement. -/
set_option maxRecDepth 100000
namespace Go.Proofs.Yteljjkghjbofnaa
open Go Go.Proofs Go.RowKit

section
variable {P : Program}

/-- How the body of a round may be left, said of the world behind the round. -/
def leaves (L : Nat) (rc : LoopState → Option Code → Loop) (Good : World → Prop) (Bad : Code → World → Prop) : Exit → Act → World → Prop
  | .normal, _, Y => Y.heap[L]? = some (.loop (rc .busy none)) ∧ Good (Y.putObj L (.loop (rc .ready none)))
  | .ret, _, Y => Y.heap[L]? = some (.loop (rc .busy none)) ∧ Bad .ret (Y.putObj L (.loop (rc .done (some .ret))))
  | .exit id, _, Y => Y.heap[L]? = some (.loop (rc .busy none)) ∧ Bad (.exit id) (Y.putObj L (.loop (rc .done (some (.exit id)))))
  | .goto t, _, Y => Y.heap[L]? = some (.loop (rc .busy none)) ∧ Bad (.goto t) (Y.putObj L (.loop (rc .done (some (.goto t)))))
  | .panic _, _, _ => False
  | .outgrown, _, _ => False

/-- One round. -/
theorem round_yield {m L D : Nat} {fn : FuncId} {tmps : Array Value} {ps : Array Tmp} {assign body : Code} {args : Array Value} {X : World} (hargs : args.size = ps.size) (rc : LoopState → Option Code → Loop)
    (hrc : rc = fun st pe => { state := st, pending := pe, fn := fn, tmps := tmps, params := ps, assign := assign, body := body, defers := D })
    (hl : X.heap[L]? = some (.loop (rc .ready none))) (a₁ : Act) (Good : World → Prop) (Bad : Code → World → Prop)
    (hassign : ∀ K : Act → World → Prop, K a₁ X → assign.wpIn (Fence.wide.inRound L) m P (Exit.then K (fun _ _ _ => False)) { tmps := (ps.zip args).foldl (fun t (p, v) => t.setIfInBounds p v) tmps, defers := [] } X)
    (hbody : body.wpIn (Fence.wide.inRound L) m P (leaves L rc Good Bad) a₁ (X.putObj L (.loop (rc .busy none)))) :
    YieldAt Fence.wide m P L args X (fun e Y => (e = .returned (.bool true) ∧ Good Y) ∨ (e = .returned (.bool false) ∧ ∃ c, Bad c Y)) := by
  have hy := run_yield (P := P) (args := args) hl (by rw [hrc]; exact hargs)
  rw [hrc] at hy
  refine ⟨fn, _, assign, body, hy, roundIn_of_wpIn trivial (hassign _ ?_)⟩
  refine ⟨_, run_beginRound hl (by rw [hrc]), ?_⟩
  have e : { rc .ready none with state := .busy } = rc .busy none := by rw [hrc]
  rw [e]
  refine Code.wpIn_mono (fun ex a' Y h => ?_) hbody
  have fin : ∀ (jump : Option Code), Y.heap[L]? = some (.loop (rc .busy none)) → (Instr.endRound L jump).run P Y = .ok (.bool jump.isNone) (Y.putObj L (.loop (rc (if jump.isNone then .ready else .done) jump))) := fun jump hl3 => by
    have := run_endRound (P := P) jump hl3
    rw [hrc] at this ⊢
    exact this
  cases ex with
  | normal => exact ⟨_, _, fin none h.1, .inl ⟨rfl, h.2⟩⟩
  | ret => exact ⟨_, _, fin (some .ret) h.1, .inr ⟨rfl, .ret, h.2⟩⟩
  | exit id => exact ⟨_, _, fin (some (.exit id)) h.1, .inr ⟨rfl, .exit id, h.2⟩⟩
  | goto t => exact ⟨_, _, fin (some (.goto t)) h.1, .inr ⟨rfl, .goto t, h.2⟩⟩
  | panic c => exact h.elim
  | outgrown => exact h.elim

/-- The statement. -/
theorem range_wide {g : Operand} {ps : Array Tmp} {assign body : Code} {Q : Exit → Act → World → Prop} {a : Act} {w : World} {gf : Nat} {bd lb : Array Value} (hg : a.eval g = .func (.func gf) bd lb) (eg : ∀ args w, (callFunc gf args).run P w = .ok (.enter gf args) w)
    (h : ∀ (fn : FuncId) (rc : LoopState → Option Code → Loop), rc = (fun st pe => { state := st, pending := pe, fn := fn, tmps := a.tmps, params := ps, assign := assign, body := body, defers := w.heap.size }) →
      Calls P gf (bd ++ #[.func (.yield (w.heap.size + 1)) #[] #[]] ++ lb) ((w.alloc (.deferred (some []))).alloc (.loop (rc .ready none))) fun e Y => (∃ v, e = .returned v) ∧
        ((Y.heap[w.heap.size + 1]? = some (.loop (rc .ready none)) ∧ Q .normal { a with defers := { target := .collected w.heap.size, args := #[] } :: a.defers } (Y.putObj (w.heap.size + 1) (.loop (rc .exhausted none)))) ∨
         (∃ c, Y.heap[w.heap.size + 1]? = some (.loop (rc .done (some c))) ∧ c.wp P Q { a with defers := { target := .collected w.heap.size, args := #[] } :: a.defers } (Y.putObj (w.heap.size + 1) (.loop (rc .exhausted (some c))))))) :
    (Code.rangeFunc g ps assign body).wp P Q a w := by
  refine (wpIn_wide (n := 10)).1 ?_
  refine wpIn_rangeFunc ?_
  intro fn _
  obtain ⟨rc, hrc⟩ : ∃ rc : LoopState → Option Code → Loop, rc = fun st pe => { state := st, pending := pe, fn := fn, tmps := a.tmps, params := ps, assign := assign, body := body, defers := w.heap.size } := ⟨_, rfl⟩
  have hh := h fn rc hrc
  refine ⟨w.heap.size + 1, [{ target := .collected w.heap.size, args := #[] }], (w.alloc (.deferred (some []))).alloc (.loop (rc .ready none)), { target := .fn (.func gf) lb, args := bd ++ #[.func (.yield (w.heap.size + 1)) #[] #[]] }, (w.alloc (.deferred (some []))).alloc (.loop (rc .ready none)), gf,
    bd ++ #[.func (.yield (w.heap.size + 1)) #[] #[]] ++ lb, (w.alloc (.deferred (some []))).alloc (.loop (rc .ready none)), ?_, ?_, ?_, ?_, (fun _ => by decide), ?_⟩
  · rw [hrc]; exact run_enterLoop_outer _ _ _ _ _
  · simp only [resolve, hg]
    simp [go_sem]
  · intro f' _; trivial
  · simp [invoke, go_sem, eg]
  · refine (callsIn_wide.2 hh).mono ?_
    rintro e Y ⟨⟨v, rfl⟩, (⟨hl, hq⟩ | ⟨c, hl, hq⟩)⟩
    · refine ⟨none, _, ?_, hq⟩
      have := run_endLoop (P := P) hl (by rw [hrc]; simp)
      rw [hrc] at this ⊢
      exact this
    · refine ⟨some c, _, ?_, wpIn_wide.2 hq⟩
      have := run_endLoop (P := P) hl (by rw [hrc]; simp)
      rw [hrc] at this ⊢
      exact this
end
end Go.Proofs.Yteljjkghjbofnaa

/-! orders: the closure that walks through all orders. -/
set_option maxRecDepth 100000
namespace Go.Proofs.Yteljjkghjbofnaa
open Go Go.Proofs Go.RowKit
attribute [local go_sem] Oper.semAt_some

def walkV (bl ow oy bw : Nat) : Value := .func (.func 142) #[] #[.pointer (some ⟨bl, 0, none⟩), .pointer (some ⟨ow, 0, none⟩), .pointer (some ⟨oy, 0, none⟩), .pointer (some ⟨bw, 0, none⟩)]

/-- Whatever lay at B or above, T's blocks apart, lies as it lay. -/
structure Wk (B : Nat) (T : Nat → Prop) (X Y : World) : Prop where
  size : X.heap.size ≤ Y.heap.size
  same : ∀ (k : Nat), B ≤ k → k < X.heap.size → ¬ T k → Y.heap[k]? = X.heap[k]?

section
variable {B : Nat} {T T' : Nat → Prop} {X Y Z : World}
theorem Wk.refl (B : Nat) (T : Nat → Prop) (X : World) : Wk B T X X := ⟨Nat.le_refl _, fun _ _ _ _ => rfl⟩
theorem Wk.trans (h : Wk B T X Y) (k : Wk B T' Y Z) (ht : ∀ r, T' r → T r ∨ X.heap.size ≤ r) : Wk B T X Z :=
  ⟨Nat.le_trans h.size k.size, fun i hi hx hn => (k.same i hi (Nat.lt_of_lt_of_le hx h.size) (fun h' => (ht i h').elim hn (fun h2 => by omega))).trans (h.same i hi hx hn)⟩
theorem Wk.of_kept (h : Kept X Y) : Wk B T X Y := ⟨h.size, fun k _ hk _ => h.below.block k hk⟩
theorem Wk.of_grownBy {row : Option Nat} (h : X.grownBy Y row) (hr : ∀ r, row = some r → T r ∨ X.heap.size ≤ r) : Wk B T X Y := ⟨h.size, fun k _ hk hn => h.block k hk (fun e => (hr k e.symm).elim hn (fun h2 => by omega))⟩
theorem Wk.mono (h : Wk B T X Y) (ht : ∀ r, T r → T' r ∨ X.heap.size ≤ r) : Wk B T' X Y := ⟨h.size, fun k hk hx hn => h.same k hk hx (fun h' => (ht k h').elim hn (fun h2 => by omega))⟩
theorem Wk.cell (h : Wk B T X Y) {k o : Nat} {v : Value} (hc : X.cell? ⟨k, o, none⟩ = some v) (hk : B ≤ k) (hn : ¬ T k) : Y.cell? ⟨k, o, none⟩ = some v :=
  (World.cell?_of_block (a := ⟨k, o, none⟩) (h.same k hk (lt_of_cell hc) hn)).trans hc
theorem Wk.frozen (h : Wk B T X Y) {k o : Nat} (hlt : k < X.heap.size) (hk : B ≤ k) (hn : ¬ T k) : Y.frozen? ⟨k, o, none⟩ = X.frozen? ⟨k, o, none⟩ :=
  World.frozen?_of_block (a := ⟨k, o, none⟩) (h.same k hk hlt hn)

/-- What the caller of orders lays down between two rounds: J; Jx: a round has said 'no more'. -/
structure Host (B b L : Nat) (W : Web) (J Jx : (Nat → Prop) → List (List Int) → World → Prop) : Prop where
  turn : ∀ {T T' : Nat → Prop} {pre : List (List Int)} {X Y : World} {row : Option Nat}, J T pre X → X.grownBy Y row → (∀ r, row = some r → T r ∨ (B ≤ r ∧ ∃ o : Obj, X.heap[r]? = some o ∧ o.isCells = false)) → (∀ r, T' r → T r ∨ (X.heap.size ≤ r ∧ r < Y.heap.size)) → J T' pre Y
  turnx : ∀ {T T' : Nat → Prop} {pre : List (List Int)} {X Y : World} {row : Option Nat}, Jx T pre X → X.grownBy Y row → (∀ r, row = some r → T r ∨ (B ≤ r ∧ ∃ o : Obj, X.heap[r]? = some o ∧ o.isCells = false)) → (∀ r, T' r → T r ∨ (X.heap.size ≤ r ∧ r < Y.heap.size)) → Jx T' pre Y
  web : ∀ {T : Nat → Prop} {pre : List (List Int)} {X : World}, J T pre X → WebAt X b W
  yld : ∀ {T : Nat → Prop} {pre : List (List Int)} {l : List Int} {g c : Nat} {X : World}, J T pre X → T g → Ints X (some ⟨g, 0, none⟩) l → l.length = W.n → l.length ≤ c → (∀ p ∈ l, 0 ≤ p ∧ p < (W.n : Int)) → l.Nodup →
    YieldAt Fence.wide 8 Try.prog L #[.slice (some ⟨g, 0, none⟩) l.length c] X (fun e Y => (e = .returned (.bool true) ∧ J T (pre ++ [l]) Y ∧ Wk B (fun _ => False) X Y) ∨ (e = .returned (.bool false) ∧ Jx T (pre ++ [l]) Y ∧ Wk B (fun _ => False) X Y))

theorem OwnI.grownNe {v : Value} {l : List Int} {row : Option Nat} (h : OwnI X B v l) (hg : X.grownBy Y row) (hr : ∀ k, v.ownBlock = some k → some k ≠ row) : OwnI Y B v l := by
  refine ⟨h.1, ?_⟩
  rcases h.2 with hn | ⟨g, cap, cur, rfl, hb, hgg, rest⟩
  · exact .inl hn
  · exact .inr ⟨g, cap, cur, rfl, hb, (hg.block g (Array.getElem?_eq_some_iff.1 hgg).1 (hr g rfl)).trans hgg, rest⟩

/-- The blocks that the iterator turns: its variable's, the slice's, those of the results that are under way. -/
def TR (bl : Nat) (v : Value) (R : Nat → Prop) (r : Nat) : Prop := r = bl ∨ v.ownBlock = some r ∨ R r

/-- What the iterator itself has in memory: vb: what its variable l holds; v: the slice of the list l. -/
structure It (B bl ow oy bw b L : Nat) (R : Nat → Prop) (vb v : Value) (l : List Int) (X : World) : Prop where
  cw : X.cell? ⟨ow, 0, none⟩ = some (.pointer (some ⟨b, 0, none⟩))
  cy : X.cell? ⟨oy, 0, none⟩ = some (.func (.yield L) #[] #[])
  cb : X.cell? ⟨bw, 0, none⟩ = some (walkV bl ow oy bw)
  cv : X.cell? ⟨bl, 0, none⟩ = some vb
  fv : X.frozen? ⟨bl, 0, none⟩ = false
  own : OwnI X B v l
  tv : ∀ r, v.ownBlock = some r → r ≠ bl ∧ ¬ R r ∧ r ≠ ow ∧ r ≠ oy ∧ r ≠ bw
  rc : ∀ r, R r → B ≤ r ∧ r ≠ bl ∧ r ≠ ow ∧ r ≠ oy ∧ r ≠ bw ∧ (∃ u, X.cell? ⟨r, 0, none⟩ = some u) ∧ X.frozen? ⟨r, 0, none⟩ = false
  n : B ≤ bl ∧ B ≤ ow ∧ B ≤ oy ∧ B ≤ bw ∧ bl ≠ ow ∧ bl ≠ oy ∧ bl ≠ bw

variable {bl ow oy bw b L : Nat} {R : Nat → Prop} {vb v : Value} {l : List Int}
theorem It.own_lt (h : It B bl ow oy bw b L R vb v l X) {r : Nat} (e : v.ownBlock = some r) : B ≤ r ∧ r < X.heap.size := h.own.lt r e
theorem It.tr_lt (h : It B bl ow oy bw b L R vb v l X) {r : Nat} (hr : TR bl v R r) : B ≤ r ∧ r < X.heap.size := by
  rcases hr with rfl | e | hr
  · exact ⟨h.n.1, lt_of_cell h.cv⟩
  · exact h.own_lt e
  · obtain ⟨h1, _, _, _, _, ⟨u, hu⟩, _⟩ := h.rc r hr
    exact ⟨h1, lt_of_cell hu⟩
theorem It.tr_cells (h : It B bl ow oy bw b L R vb v l X) {r : Nat} {o : Obj} (hr : TR bl v R r) (ho : X.heap[r]? = some o) : o.isCells = true := by
  have key : ∀ {k : Nat} {u : Value}, X.cell? ⟨k, 0, none⟩ = some u → X.heap[k]? = some o → o.isCells = true := fun hc hk => by
    obtain ⟨o', ho', hc'⟩ := cells_of_cell hc
    rw [hk] at ho'
    cases ho'
    exact hc'
  rcases hr with rfl | e | hr
  · exact key h.cv ho
  · exact own_row_cells h.own r o e ho
  · obtain ⟨_, _, _, _, _, ⟨u, hu⟩, _⟩ := h.rc r hr
    exact key hu ho
theorem It.tr_n (h : It B bl ow oy bw b L R vb v l X) : ¬ TR bl v R ow ∧ ¬ TR bl v R oy ∧ ¬ TR bl v R bw := by
  obtain ⟨_, _, _, _, n1, n2, n3⟩ := h.n
  refine ⟨fun hr => ?_, fun hr => ?_, fun hr => ?_⟩ <;> rcases hr with e | e | hr
  · exact n1 e.symm
  · exact (h.tv _ e).2.2.1 rfl
  · exact (h.rc _ hr).2.2.1 rfl
  · exact n2 e.symm
  · exact (h.tv _ e).2.2.2.1 rfl
  · exact (h.rc _ hr).2.2.2.1 rfl
  · exact n3 e.symm
  · exact (h.tv _ e).2.2.2.2 rfl
  · exact (h.rc _ hr).2.2.2.2.1 rfl
/-- A step that turns no block of the iterator's. -/
theorem It.grown {row : Option Nat} (h : It B bl ow oy bw b L R vb v l X) (hg : X.grownBy Y row) (hr : ∀ r, row = some r → ¬ TR bl v R r ∧ r ≠ ow ∧ r ≠ oy ∧ r ≠ bw) : It B bl ow oy bw b L R vb v l Y :=
  ⟨hg.cell h.cw (fun e => (hr ow e.symm).2.1 rfl), hg.cell h.cy (fun e => (hr oy e.symm).2.2.1 rfl), hg.cell h.cb (fun e => (hr bw e.symm).2.2.2 rfl), hg.cell h.cv (fun e => (hr bl e.symm).1 (.inl rfl)),
   (World.frozen?_of_block (a := ⟨bl, 0, none⟩) (hg.block bl (lt_of_cell h.cv) (fun e => (hr bl e.symm).1 (.inl rfl)))).trans h.fv,
   h.own.grownNe hg (fun k hk e => (hr k e.symm).1 (.inr (.inl hk))), h.tv, fun r hr' => by
    obtain ⟨h1, h2, h3, h4, h5, ⟨u, hu⟩, hf⟩ := h.rc r hr'
    have hne : some r ≠ row := fun e => (hr r e.symm).1 (.inr (.inr hr'))
    exact ⟨h1, h2, h3, h4, h5, ⟨u, hg.cell hu hne⟩, (World.frozen?_of_block (a := ⟨r, 0, none⟩) (hg.block r (lt_of_cell hu) hne)).trans hf⟩, h.n⟩
theorem It.kept (h : It B bl ow oy bw b L R vb v l X) (hk : Kept X Y) : It B bl ow oy bw b L R vb v l Y :=
  h.grown (grownBy_kept (World.grownBy.refl X none) hk) (fun r e => by cases e)
theorem It.wk (h : It B bl ow oy bw b L R vb v l X) (hk : Wk B (fun _ => False) X Y) : It B bl ow oy bw b L R vb v l Y := by
  refine ⟨hk.cell h.cw h.n.2.1 id, hk.cell h.cy h.n.2.2.1 id, hk.cell h.cb h.n.2.2.2.1 id, hk.cell h.cv h.n.1 id, (hk.frozen (lt_of_cell h.cv) h.n.1 id).trans h.fv, ?_, h.tv, fun r hr' => ?_, h.n⟩
  · refine ⟨h.own.1, ?_⟩
    rcases h.own.2 with hn | ⟨g, cap, cur, rfl, hb, hgg, rest⟩
    · exact .inl hn
    · exact .inr ⟨g, cap, cur, rfl, hb, (hk.same g hb (Array.getElem?_eq_some_iff.1 hgg).1 id).trans hgg, rest⟩
  · obtain ⟨h1, h2, h3, h4, h5, ⟨u, hu⟩, hf⟩ := h.rc r hr'
    exact ⟨h1, h2, h3, h4, h5, ⟨u, hk.cell hu h1 id⟩, (hk.frozen (lt_of_cell hu) h1 id).trans hf⟩
/-- One result more is under way. -/
theorem It.more (h : It B bl ow oy bw b L R vb v l X) {p : Nat} (hp : B ≤ p) (h1 : ¬ TR bl v R p ∧ p ≠ ow ∧ p ≠ oy ∧ p ≠ bw) {u : Value} (hu : X.cell? ⟨p, 0, none⟩ = some u) (hf : X.frozen? ⟨p, 0, none⟩ = false) : It B bl ow oy bw b L (fun r => R r ∨ r = p) vb v l X :=
  ⟨h.cw, h.cy, h.cb, h.cv, h.fv, h.own, fun r e => ⟨(h.tv r e).1, fun hr => hr.elim (h.tv r e).2.1 (fun e2 => by subst e2; exact h1.1 (.inr (.inl e))), (h.tv r e).2.2⟩,
   fun r hr => hr.elim (h.rc r) (fun e => by subst e; exact ⟨hp, fun e => h1.1 (.inl e), h1.2.1, h1.2.2.1, h1.2.2.2, ⟨u, hu⟩, hf⟩), h.n⟩
theorem It.less {R' : Nat → Prop} (h : It B bl ow oy bw b L R vb v l X) (hr : ∀ r, R' r → R r) : It B bl ow oy bw b L R' vb v l X :=
  ⟨h.cw, h.cy, h.cb, h.cv, h.fv, h.own, fun r e => ⟨(h.tv r e).1, fun h' => (h.tv r e).2.1 (hr r h'), (h.tv r e).2.2⟩, fun r h' => h.rc r (hr r h'), h.n⟩
/-- A result is stored. -/
theorem It.setR (h : It B bl ow oy bw b L R vb v l X) {p : Nat} (hp : R p) (u : Value) : It B bl ow oy bw b L R vb v l (X.setCell ⟨p, 0, none⟩ u) := by
  have hg := grownBy_setCell' X p u
  obtain ⟨p1, p2, p3, p4, p5, ⟨pu, hpu⟩, pf⟩ := h.rc p hp
  refine ⟨hg.cell h.cw (fun e => p3 (Option.some.inj e).symm), hg.cell h.cy (fun e => p4 (Option.some.inj e).symm), hg.cell h.cb (fun e => p5 (Option.some.inj e).symm), hg.cell h.cv (fun e => p2 (Option.some.inj e).symm), by rw [World.frozen?_setCell]; exact h.fv,
    h.own.grownNe hg (fun k hk e => by cases e; exact (h.tv _ hk).2.1 hp), h.tv, fun r hr => ?_, h.n⟩
  obtain ⟨h1, h2, h3, h4, h5, ⟨u', hu⟩, hf⟩ := h.rc r hr
  refine ⟨h1, h2, h3, h4, h5, ?_, by rw [World.frozen?_setCell]; exact hf⟩
  by_cases e : r = p
  · subst e; exact ⟨u, cell_set_same hu⟩
  · exact ⟨u', cell_set_block hu e⟩
/-- The variable gets the slice. -/
theorem It.store (h : It B bl ow oy bw b L R vb v l X) : It B bl ow oy bw b L R v v l (X.setCell ⟨bl, 0, none⟩ v) := by
  have hg := grownBy_setCell' X bl v
  obtain ⟨_, _, _, _, n1, n2, n3⟩ := h.n
  refine ⟨hg.cell h.cw (fun e => n1 (Option.some.inj e).symm), hg.cell h.cy (fun e => n2 (Option.some.inj e).symm), hg.cell h.cb (fun e => n3 (Option.some.inj e).symm), cell_set_same h.cv, by rw [World.frozen?_setCell]; exact h.fv,
    h.own.grownNe hg (fun k hk e => (h.tv k hk).1 (Option.some.inj e)), h.tv, fun r hr => ?_, h.n⟩
  obtain ⟨h1, h2, h3, h4, h5, ⟨u', hu⟩, hf⟩ := h.rc r hr
  exact ⟨h1, h2, h3, h4, h5, ⟨u', cell_set_block hu h2⟩, by rw [World.frozen?_setCell]; exact hf⟩
/-- One more element: v' is the longer slice. -/
theorem It.app {v' : Value} {l' : List Int} (h : It B bl ow oy bw b L R vb v l X) (hg : X.grownBy Y v.ownBlock) (hown : OwnI Y B v' l') (hat : v'.ownBlock = v.ownBlock ∨ v'.ownBlock = some X.heap.size) :
    It B bl ow oy bw b L R vb v' l' Y := by
  refine ⟨hg.cell h.cw (fun e => (h.tv _ e.symm).2.2.1 rfl), hg.cell h.cy (fun e => (h.tv _ e.symm).2.2.2.1 rfl), hg.cell h.cb (fun e => (h.tv _ e.symm).2.2.2.2 rfl), hg.cell h.cv (fun e => (h.tv _ e.symm).1 rfl),
    (World.frozen?_of_block (a := ⟨bl, 0, none⟩) (hg.block bl (lt_of_cell h.cv) (fun e => (h.tv _ e.symm).1 rfl))).trans h.fv, hown, fun r e => ?_, fun r hr => ?_, h.n⟩
  · rcases hat with h1 | h1
    · rw [h1] at e; exact h.tv r e
    · rw [h1] at e
      have e := Option.some.inj e
      subst e
      have l1 := lt_of_cell h.cw
      have l2 := lt_of_cell h.cy
      have l3 := lt_of_cell h.cb
      have l4 := lt_of_cell h.cv
      exact ⟨by omega, fun hr => by obtain ⟨_, _, _, _, _, ⟨u, hu⟩, _⟩ := h.rc _ hr; have := lt_of_cell hu; omega, by omega, by omega, by omega⟩
  · obtain ⟨h1, h2, h3, h4, h5, ⟨u, hu⟩, hf⟩ := h.rc r hr
    have hne : some r ≠ v.ownBlock := fun e => (h.tv r e.symm).2.1 hr
    exact ⟨h1, h2, h3, h4, h5, ⟨u, hg.cell hu hne⟩, (World.frozen?_of_block (a := ⟨r, 0, none⟩) (hg.block r (lt_of_cell hu) hne)).trans hf⟩
/-- Non-cells lie as they lay. -/
theorem It.keeps (h : It B bl ow oy bw b L R vb v l X) (hk : Wk B (TR bl v R) X Y) {B' : Nat} (hB : B ≤ B') : KeepsFrom B' X Y :=
  ⟨hk.size, fun k o hk' h0 ho => (hk.same k (by omega) (Array.getElem?_eq_some_iff.1 h0).1 (fun hr => by rw [h.tr_cells hr h0] at ho; cases ho)).trans h0⟩
end

/-- The last element is taken off. -/
theorem OwnI.pop {X : World} {B g n c : Nat} {l : List Int} {p : Int} (h : OwnI X B (.slice (some ⟨g, 0, none⟩) n c) (l ++ [p])) : OwnI X B (.slice (some ⟨g, 0, none⟩) l.length c) l := by
  refine ⟨by simp, .inr ?_⟩
  rcases h.2 with ⟨e, _⟩ | ⟨g', cap, cur, e, hb, hgg, hnc, hcm, hcs, htake⟩
  · cases e
  · simp only [Value.slice.injEq, Option.some.injEq, Addr.mk.injEq, and_true] at e
    obtain ⟨rfl, -, rfl⟩ := e
    refine ⟨g, c, cur, rfl, hb, hgg, by simp at hnc; omega, hcm, hcs, ?_⟩
    have e2 : cur.toList.take (l.length * 1) = (cur.toList.take ((l ++ [p]).length * 1)).take l.length := by
      rw [List.take_take, Nat.mul_one, Nat.mul_one, List.length_append]
      congr 1
      simp
    rw [e2, htake, List.map_append, List.take_append_of_le_length (by simp)]
    exact List.take_of_length_le (by simp)


def Ends (B bl ow oy bw b L : Nat) (J Jx : (Nat → Prop) → List (List Int) → World → Prop) (R : Nat → Prop) (v : Value) (pre all : List (List Int)) (l : List Int) (X : World) (e : Ending) (Y : World) : Prop :=
  (e = .returned (.bool true) ∧ ∃ v' : Value, (∀ r, v'.ownBlock = some r → v.ownBlock = some r ∨ X.heap.size ≤ r) ∧ It B bl ow oy bw b L R v' v' l Y ∧ J (TR bl v' R) (pre ++ all) Y ∧ Wk B (TR bl v R) X Y) ∨
  (e = .returned (.bool false) ∧ ∃ (T' : Nat → Prop) (q : List (List Int)), (∀ r, R r → T' r) ∧ (∀ r, T' r → TR bl v R r ∨ X.heap.size ≤ r) ∧ q <+: all ∧ Jx T' (pre ++ q) Y ∧ (∀ r, R r → (∃ u, Y.cell? ⟨r, 0, none⟩ = some u) ∧ Y.frozen? ⟨r, 0, none⟩ = false) ∧ Wk B (TR bl v R) X Y)

theorem load_bool {w : World} {a : Addr} {x : Bool} (h : w.cell? a = some (.bool x)) : (loadVar 4 a).run Try.prog w = .ok (.bool x) w := by
  simp [go_sem, h]

set_option maxHeartbeats 1600000 in
theorem walk_leaf (B bl ow oy bw b L : Nat) (W : Web) (hn0 : 0 < W.n) (J Jx : (Nat → Prop) → List (List Int) → World → Prop) (host : Host B b L W J Jx) (l : List Int) (v : Value) (R : Nat → Prop) (pre : List (List Int)) (X : World)
    (hl : l.length = W.n) (hin : ∀ p ∈ l, 0 ≤ p ∧ p < (W.n : Int)) (hnd : l.Nodup) (hit : It B bl ow oy bw b L R v v l X) (hj : J (TR bl v R) pre X) :
    Calls Try.prog 142 #[.int .u32 (sI (setS l)), .pointer (some ⟨bl, 0, none⟩), .pointer (some ⟨ow, 0, none⟩), .pointer (some ⟨oy, 0, none⟩), .pointer (some ⟨bw, 0, none⟩)] X (Ends B bl ow oy bw b L J Jx R v pre [l] l X) := by
  have HIT := Lib.hid hit
  have HJ := Lib.hid hj
  have HL := Lib.hid hl
  have HIN := Lib.hid hin
  have HND := Lib.hid hnd
  have HHOST := Lib.hid host
  obtain ⟨ao, c, hv, hc, hints⟩ := hit.own.slice
  obtain ⟨g, rfl⟩ : ∃ g, ao = some ⟨g, 0, none⟩ := by
    rcases hit.own.2 with ⟨e, h0⟩ | ⟨g, cap, cur, e, _⟩
    · rw [hl] at h0; omega
    · rw [hv] at e
      simp only [Value.slice.injEq] at e
      exact ⟨g, e.1⟩
  subst hv
  rw [hl] at hc
  have HINTS := Lib.hid hints
  have HC := Lib.hid hc
  have c1 := hit.cw
  have c2 := hit.cy
  have c4 := hit.cv
  rw [hl] at c4
  have c5 := (host.web hj).n
  have hB : B ≤ X.heap.size := Nat.le_trans hit.n.1 (Nat.le_of_lt (lt_of_cell hit.cv))
  have hbl := lt_of_cell c4
  have hlow := lt_of_cell c1
  have hloy := lt_of_cell c2
  have hlb := lt_of_cell c5
  have hlbw := lt_of_cell hit.cb
  clear hit hj hl hin hnd host hints hc
  refine calls_of_wp_marks Try.func142 rfl ?_
  simp only [Try.ntmps142, List.size_toArray, List.length_cons, List.length_nil, Nat.reduceAdd, Nat.reduceSub, Array.replicate_succ, Array.replicate_zero, List.push_toArray, List.append_toArray, List.nil_append, List.cons_append]
  have hwf : ∀ f : FuncId, Fence.wide.fn f := fun _ => trivial
  have hx1 : Kept X (((X.alloc (.cells #[.int .u32 (sI (setS l))] 93)).alloc (.cells #[.bool false] 4)).drew) := (((Kept.refl X).alloc _).alloc _).drew
  have hz1 : (((X.alloc (.cells #[.int .u32 (sI (setS l))] 93)).alloc (.cells #[.bool false] 4)).drew).heap.size = X.heap.size + 2 := by simp
  have hc6 : (((X.alloc (.cells #[.int .u32 (sI (setS l))] 93)).alloc (.cells #[.bool false] 4)).drew).cell? ⟨X.heap.size + 1, 0, none⟩ = some (.bool false) := by simp [go_sem]
  have hf6 : (((X.alloc (.cells #[.int .u32 (sI (setS l))] 93)).alloc (.cells #[.bool false] 4)).drew).frozen? ⟨X.heap.size + 1, 0, none⟩ = false := by simp [go_sem]
  have hg1 : X.grownBy (((X.alloc (.cells #[.int .u32 (sI (setS l))] 93)).alloc (.cells #[.bool false] 4)).drew) none := grownBy_kept (World.grownBy.refl X none) hx1
  have hj1 := HHOST.out.turn (T' := TR bl (.slice (some ⟨g, 0, none⟩) l.length c) (fun r => R r ∨ r = X.heap.size + 1)) HJ.out hg1 (fun r e => by cases e) (fun r h => by
    rcases h with h | h | h | h
    · exact .inl (.inl h)
    · exact .inl (.inr (.inl h))
    · exact .inl (.inr (.inr h))
    · exact .inr (by rw [hz1]; omega))
  have hit1 := (HIT.out.kept hx1).more (p := X.heap.size + 1) (by omega) ⟨fun h => by have := (HIT.out.tr_lt h).2; omega, by omega, by omega, by omega⟩ hc6 hf6
  have hy := HHOST.out.yld hj1 (.inr (.inl rfl)) (HINTS.out.kept hx1) HL.out (by rw [HL.out]; exact HC.out) HIN.out HND.out
  rw [HL.out] at hy
  obtain ⟨fn, tmps, assign, body, hyl, hR⟩ := hy
  have HX1 := Lib.hid hx1
  have HZ1 := Lib.hid hz1
  have HC6 := Lib.hid hc6
  have HF6 := Lib.hid hf6
  have HI1 := Lib.hid hit1
  clear hx1 hz1 hc6 hf6 hg1 hj1 hit1
  refine (wpIn_wide (n := 9)).1 ?_
  gi_wp2_with fail
  refine wpIn_wide.2 ?_
  refine region_tail 6 (by kernel_rfl) (by kernel_rfl) ?_
  simp only [List.take_succ_cons, List.take_zero, List.drop_succ_cons, List.drop_zero]
  repeat still_step
  refine wpStill_nil ?_
  go_wp2
  gi_wp2_with fail
  refine hR.mono ?_
  clear hyl hR
  have fin : ∀ (Y : World), Wk B (fun _ => False) (((X.alloc (.cells #[.int .u32 (sI (setS l))] 93)).alloc (.cells #[.bool false] 4)).drew) Y → Y.cell? ⟨X.heap.size + 1, 0, none⟩ = some (.bool false) ∧ Y.frozen? ⟨X.heap.size + 1, 0, none⟩ = false ∧ X.heap.size + 1 < Y.heap.size := fun Y hk =>
    ⟨hk.cell HC6.out (by omega) id, (hk.frozen (lt_of_cell HC6.out) (by omega) id).trans HF6.out, Nat.lt_of_lt_of_le (lt_of_cell HC6.out) hk.size⟩
  have FIN := Lib.hid fin
  clear fin
  rintro e Y (⟨rfl, hJ2, hk2⟩ | ⟨rfl, hJ2, hk2⟩)
  · obtain ⟨d1, d2, d3⟩ := FIN.out Y hk2
    have HK2 := Lib.hid hk2
    have HJ2 := Lib.hid hJ2
    clear hk2 hJ2
    gi_wp2
    refine ⟨_, results_cell rfl _ _ ⟨X.heap.size + 1, 0, none⟩ rfl (.bool true) (load_bool (cell_set_same d1)), .inl ⟨rfl, .slice (some ⟨g, 0, none⟩) l.length c, fun r h => .inl h, ?_, ?_, ?_⟩⟩
    · exact ((HI1.out.wk HK2.out).setR (p := X.heap.size + 1) (.inr rfl) _).less (fun r h => .inl h)
    · exact HHOST.out.turn HJ2.out (grownBy_setCell' Y (X.heap.size + 1) _) (fun r e => by cases e; exact .inl (.inr (.inr (.inr rfl)))) (fun r h => .inl (h.imp id (fun h => h.imp id .inl)))
    · exact ((Wk.of_kept HX1.out).trans (T' := fun _ => False) HK2.out (fun r h => h.elim)).trans (T' := fun r => r = X.heap.size + 1) (Wk.of_grownBy (grownBy_setCell' Y (X.heap.size + 1) _) (fun r e => by cases e; exact .inl rfl)) (fun r h => .inr (by omega))
  · obtain ⟨d1, d2, d3⟩ := FIN.out Y hk2
    have HK2 := Lib.hid hk2
    have HJ2 := Lib.hid hJ2
    clear hk2 hJ2
    gi_wp2
    refine ⟨_, results_cell rfl _ _ ⟨X.heap.size + 1, 0, none⟩ rfl (.bool false) (load_bool (cell_set_same d1)), .inr ⟨rfl, TR bl (.slice (some ⟨g, 0, none⟩) l.length c) (fun r => R r ∨ r = X.heap.size + 1), [l], fun r h => .inr (.inr (.inl h)), fun r h => ?_, List.prefix_refl _, ?_, fun r h => ?_, ?_⟩⟩
    · rcases h with h | h | h | h
      · exact .inl (.inl h)
      · exact .inl (.inr (.inl h))
      · exact .inl (.inr (.inr h))
      · exact .inr (by omega)
    · exact HHOST.out.turnx HJ2.out (grownBy_setCell' Y (X.heap.size + 1) _) (fun r e => by cases e; exact .inl (.inr (.inr (.inr rfl)))) (fun r h => .inl h)
    · exact (((HI1.out.wk HK2.out).setR (p := X.heap.size + 1) (.inr rfl) _).rc r (.inl h)).2.2.2.2.2
    · exact ((Wk.of_kept HX1.out).trans (T' := fun _ => False) HK2.out (fun r h => h.elim)).trans (T' := fun r => r = X.heap.size + 1) (Wk.of_grownBy (grownBy_setCell' Y (X.heap.size + 1) _) (fun r e => by cases e; exact .inl rfl)) (fun r h => .inr (by omega))
end Go.Proofs.Yteljjkghjbofnaa

/-! orders: the walk through all orders. -/
set_option maxRecDepth 100000
namespace Go.Proofs.Yteljjkghjbofnaa
open Go Go.Proofs Go.RowKit
attribute [local go_sem] Oper.semAt_some

theorem own_succ' {X : World} {base : Nat} {v : Value} {l : List Int} {y : Int} (h : OwnI X base v (l ++ [y])) : ∃ g c, v = .slice (some ⟨g, 0, none⟩) (l.length + 1) c ∧ l.length + 1 ≤ c := by
  rcases h.2 with ⟨_, h0⟩ | ⟨g, cap, cur, e, _, _, hc, _⟩
  · simp at h0
  · simp only [List.length_append, List.length_cons, List.length_nil, Nat.zero_add] at e hc
    exact ⟨g, cap, e, hc⟩

theorem pop_facts {X : World} {base : Nat} {v : Value} {l : List Int} {y : Int} (h : OwnI X base v (l ++ [y])) (hl : l.length < 24) : ∃ g n c, v = .slice (some ⟨g, 0, none⟩) (n + 1) c ∧ (n : Int) ≤ c ∧ wrap64 (n : Int) = n ∧ Hid (l.length = n) := by
  obtain ⟨g, c, h1, h2⟩ := own_succ' h
  exact ⟨g, l.length, c, h1, by omega, IntWalk.wrap64_in _ (by omega), Lib.hid rfl⟩

theorem append_at {F : Fence} {n : Nat} {ops : Array Oper} {rest : List Oper} {o : Oper} {a : Act} {Q : Exit → Act → World → Prop} (w : World) (hg : o.guard = none) (s x : Operand)
    (ho : o.op = .call { callee := .builtin .append, args := #[s, x], argTypes := #[31, 31] }) (base : Nat) (v : Value) (l : List Int) (hs : a.eval s = v) (hown : OwnI w base v l)
    (g c : Nat) (y : Int) (hx : a.eval x = .slice (some ⟨g, 0, none⟩) 1 c) (hy : w.cell? ⟨g, 0, none⟩ = some (.int .i64 y)) (hl : l.length < 1099511627776) (hbase : base ≤ w.heap.size)
    (h : ∀ g' c' w', OwnI w' base (.slice (some ⟨g', 0, none⟩) (l.length + 1) c') (l ++ [y]) → w.grownBy w' v.ownBlock → (some g' = v.ownBlock ∨ g' = w.heap.size) → wpListIn F n Try.prog ops Q rest (a.put o.dst (.slice (some ⟨g', 0, none⟩) (l.length + 1) c')) w') :
    wpListIn F n Try.prog ops Q (o :: rest) a w := by
  obtain ⟨i0, hi, hz0, hz1, hz2⟩ := info_parts info3
  refine wpListIn_append_own_at w hg s x 31 ho base 3 i0 (.int .i64 0) 1 8 Try.underlying31 hi hz0 hz1 hz2 rfl (by decide) v l.length _ hs hown ⟨g, 0, none⟩ 1 c [.int .i64 y] hx rfl
    (fun j u hu => ?_) (by simp [Value.oneCell']) (by unfold maxLen; omega) (by omega) hbase ?_
  · cases j with
    | zero => simp at hu; subst hu; exact hy
    | succ j => simp at hu
  · intro v' w' h1 h2 _ h4
    obtain ⟨g', c', rfl, h3⟩ := own_succ h1
    exact h g' c' w' h3 h2 (by
      rcases h4 with h4 | h4
      · exact .inl h4
      · exact .inr (by simpa [Value.ownBlock] using h4))

/-- What stands between two rounds of the loop over what is ready. -/
def InI (B bl ow oy bw b L : Nat) (J : (Nat → Prop) → List (List Int) → World → Prop) (l : List Int) (v : Value) (R1 : Nat → Prop) (p5 : Nat) (X2 : World) (part : List (List Int)) (Y : World) : Prop :=
  ∃ v', (∀ r, v'.ownBlock = some r → v.ownBlock = some r ∨ X2.heap.size ≤ r) ∧ It B bl ow oy bw b L R1 v' v' l Y ∧ J (TR bl v' R1) part Y ∧ Y.cell? ⟨p5, 0, none⟩ = some (.int .u32 (sI (setS l))) ∧ Wk B (TR bl v R1) X2 Y
/-- A round has said 'no more'. -/
def InX (B bl : Nat) (Jx : (Nat → Prop) → List (List Int) → World → Prop) (v : Value) (R1 : Nat → Prop) (p6 : Nat) (X2 : World) (pre all : List (List Int)) (Y : World) : Prop :=
  ∃ (T' : Nat → Prop) (q : List (List Int)), (∀ r, R1 r → T' r) ∧ (∀ r, T' r → TR bl v R1 r ∨ X2.heap.size ≤ r) ∧ q <+: all ∧ Jx T' (pre ++ q) Y ∧ Y.cell? ⟨p6, 0, none⟩ = some (.bool false) ∧ (∀ r, R1 r → (∃ u, Y.cell? ⟨r, 0, none⟩ = some u) ∧ Y.frozen? ⟨r, 0, none⟩ = false) ∧ Wk B (TR bl v R1) X2 Y

theorem InI.own {B bl ow oy bw b L : Nat} {W : Web} {J Jx : (Nat → Prop) → List (List Int) → World → Prop} (host : Host B b L W J Jx) {l : List Int} {v : Value} {R1 : Nat → Prop} {p5 : Nat} {X2 : World} (hB : B ≤ X2.heap.size)
    (how : ow < X2.heap.size ∧ oy < X2.heap.size ∧ bw < X2.heap.size) {α : Type} (f : List α → List (List Int)) : OwnFrom X2.heap.size (fun xs Y => InI B bl ow oy bw b L J l v R1 p5 X2 (f xs) Y) := by
  rintro xs A Z row ⟨v', h1, h2, h3, h4, h7⟩ hg hr
  have hnc : ∀ r, row = some r → ∃ o : Obj, A.heap[r]? = some o ∧ o.isCells = false := fun r e => (hr r e).2
  refine ⟨v', h1, h2.grown hg (fun r e => ⟨fun ht => ?_, fun e2 => ?_, fun e2 => ?_, fun e2 => ?_⟩), host.turn h3 hg (fun r e => .inr ⟨Nat.le_trans hB (hr r e).1, (hr r e).2⟩) (fun r h => .inl h), cell_kept h4 hg hnc,
    h7.trans (T' := fun r => X2.heap.size ≤ r) (Wk.of_grownBy hg (fun r e => .inl (hr r e).1)) (fun r h => .inr h)⟩
  · obtain ⟨o, ho, hc⟩ := hnc r e
    rw [h2.tr_cells ht ho] at hc
    cases hc
  · have := (hr r e).1; omega
  · have := (hr r e).1; omega
  · have := (hr r e).1; omega
theorem InX.own {B bl b L : Nat} {W : Web} {J Jx : (Nat → Prop) → List (List Int) → World → Prop} (host : Host B b L W J Jx) {v : Value} {R1 : Nat → Prop} {p6 : Nat} {X2 : World} (hB : B ≤ X2.heap.size) {pre : List (List Int)} {α : Type} (P : Prop) (f : List α → List (List Int)) :
    OwnFrom X2.heap.size (fun (xs : List α) Y => P ∧ InX B bl Jx v R1 p6 X2 pre (f xs) Y) := by
  rintro xs A Z row ⟨hp, T', q, h1, h2, h3, h4, h5, h7, h6⟩ hg hr
  have hnc : ∀ r, row = some r → ∃ o : Obj, A.heap[r]? = some o ∧ o.isCells = false := fun r e => (hr r e).2
  exact ⟨hp, T', q, h1, h2, h3, host.turnx h4 hg (fun r e => .inr ⟨Nat.le_trans hB (hr r e).1, (hr r e).2⟩) (fun r h => .inl h), cell_kept h5 hg hnc, (fun r hr' => by obtain ⟨⟨u, hu⟩, hf⟩ := h7 r hr'; exact ⟨⟨u, cell_kept hu hg hnc⟩, (frozen_kept hu hg hnc).trans hf⟩),
    h6.trans (T' := fun r => X2.heap.size ≤ r) (Wk.of_grownBy hg (fun r e => .inl (hr r e).1)) (fun r h => .inr h)⟩

theorem It.pop {B bl ow oy bw b L : Nat} {R : Nat → Prop} {vb : Value} {l : List Int} {p : Int} {g n c : Nat} {X : World} (h : It B bl ow oy bw b L R vb (.slice (some ⟨g, 0, none⟩) n c) (l ++ [p]) X) : It B bl ow oy bw b L R vb (.slice (some ⟨g, 0, none⟩) l.length c) l X :=
  ⟨h.cw, h.cy, h.cb, h.cv, h.fv, h.own.pop, h.tv, h.rc, h.n⟩

/-- One patch more is put behind the list. -/
theorem step_app {B bl ow oy bw b L : Nat} {W : Web} {J Jx : (Nat → Prop) → List (List Int) → World → Prop} (host : Host B b L W J Jx) {R : Nat → Prop} {v : Value} {l : List Int} {x : Int} {part : List (List Int)} {Y w1 : World} {g' c' : Nat} {o : Obj}
    (hit : It B bl ow oy bw b L R v v l Y) (hj : J (TR bl v R) part Y) (hown : OwnI w1 B (.slice (some ⟨g', 0, none⟩) (l.length + 1) c') (l ++ [x])) (hg : (Y.alloc o).grownBy w1 v.ownBlock) (hat : some g' = v.ownBlock ∨ g' = (Y.alloc o).heap.size) :
    It B bl ow oy bw b L R (.slice (some ⟨g', 0, none⟩) (l.length + 1) c') (.slice (some ⟨g', 0, none⟩) (l.length + 1) c') (l ++ [x]) (w1.setCell ⟨bl, 0, none⟩ (.slice (some ⟨g', 0, none⟩) (l.length + 1) c')) ∧
    J (TR bl (.slice (some ⟨g', 0, none⟩) (l.length + 1) c') R) part (w1.setCell ⟨bl, 0, none⟩ (.slice (some ⟨g', 0, none⟩) (l.length + 1) c')) ∧
    Wk B (TR bl v R) Y (w1.setCell ⟨bl, 0, none⟩ (.slice (some ⟨g', 0, none⟩) (l.length + 1) c')) ∧ (some g' = v.ownBlock ∨ Y.heap.size ≤ g') := by
  have hk : Kept Y (Y.alloc o) := (Kept.refl Y).alloc o
  have h1 := (hit.kept hk).app (l' := l ++ [x]) hg hown (hat.imp (fun e => by simpa [Value.ownBlock] using e) (fun e => by simpa [Value.ownBlock] using e))
  have hlt := (hown.lt g' rfl).2
  refine ⟨h1.store, ?_, ?_, hat.imp id (fun e => by simp at e; omega)⟩
  · have j1 := host.turn (T' := TR bl v R) hj (World.grownBy_alloc Y o none) (fun r e => by cases e) (fun r h => .inl h)
    have j2 := host.turn (T' := TR bl (.slice (some ⟨g', 0, none⟩) (l.length + 1) c') R) j1 hg (fun r e => .inl (.inr (.inl e))) (fun r h => by
      rcases h with h | h | h
      · exact .inl (.inl h)
      · have h : g' = r := by simpa [Value.ownBlock] using h
        subst h
        rcases hat with e | e
        · exact .inl (.inr (.inl e.symm))
        · exact .inr ⟨by omega, hlt⟩
      · exact .inl (.inr (.inr h)))
    exact host.turn j2 (grownBy_setCell' w1 bl _) (fun r e => by cases e; exact .inl (.inl rfl)) (fun r h => .inl h)
  · exact ((Wk.of_kept hk).trans (T' := TR bl v R) (Wk.of_grownBy hg (fun r e => .inl (.inr (.inl e)))) (fun r h => .inl h)).trans (T' := TR bl v R) (Wk.of_grownBy (grownBy_setCell' w1 bl _) (fun r e => by cases e; exact .inl (.inl rfl))) (fun r h => .inl h)

theorem ordersF_succ {W : Web} {d : S} {f : Nat} {l : List Int} (hl : ¬ l.length = W.n) : ordersF W (f + 1) d l = (readyL W d).flatMap fun p => ordersF W f (d ||| oneS p) (l ++ [(p : Int)]) := by
  conv => lhs; unfold ordersF
  rw [if_neg hl]
theorem setS_snoc_nat (l : List Int) (p : Nat) : setS (l ++ [(p : Int)]) = setS l ||| oneS p := by rw [setS_snoc, Int.toNat_natCast]

set_option maxHeartbeats 3000000 in
theorem walk_any (B bl ow oy bw b L : Nat) (W : Web) (hn : W.n ≤ 24) (hn0 : 0 < W.n) (J Jx : (Nat → Prop) → List (List Int) → World → Prop) (host : Host B b L W J Jx) : ∀ (f : Nat) (l : List Int) (v : Value) (R : Nat → Prop) (pre : List (List Int)) (X : World),
    W.n - l.length < f → l.length ≤ W.n → (∀ p ∈ l, 0 ≤ p ∧ p < (W.n : Int)) → l.Nodup → It B bl ow oy bw b L R v v l X → J (TR bl v R) pre X →
    Calls Try.prog 142 #[.int .u32 (sI (setS l)), .pointer (some ⟨bl, 0, none⟩), .pointer (some ⟨ow, 0, none⟩), .pointer (some ⟨oy, 0, none⟩), .pointer (some ⟨bw, 0, none⟩)] X (Ends B bl ow oy bw b L J Jx R v pre (ordersF W f (setS l) l) l X) := by
  intro f
  induction f with
  | zero => intro l v R pre X h; omega
  | succ f ih =>
    intro l v R pre X hf hle hin hnd hit hj
    by_cases hl : l.length = W.n
    · have e : ordersF W (f + 1) (setS l) l = [l] := by unfold ordersF; rw [if_pos hl]
      rw [e]
      exact walk_leaf B bl ow oy bw b L W hn0 J Jx host l v R pre X hl hin hnd hit hj
    · have HALL := Lib.hid (ordersF_succ (W := W) (d := setS l) (f := f) hl)
      generalize ordersF W (f + 1) (setS l) l = all at *
      have IH := Lib.hid ih
      have HF := Lib.hid hf
      have HIT := Lib.hid hit
      have HJ := Lib.hid hj
      have HLE : Hid (l.length < W.n) := Nat.lt_of_le_of_ne hle hl
      have HIN := Lib.hid hin
      have HND := Lib.hid hnd
      have HHOST := Lib.hid host
      obtain ⟨ao, c, hv, hc, -⟩ := hit.own.slice
      have c1 := hit.cw
      have c4 := hit.cv
      rw [hv] at c4
      have c5 := (host.web hj).n
      have hneq : ((l.length : Int) == (W.n : Int)) = false := by simp; omega
      have hB : B ≤ X.heap.size := Nat.le_trans hit.n.1 (Nat.le_of_lt (lt_of_cell hit.cv))
      have hbl := lt_of_cell c4
      have hlow := lt_of_cell c1
      have hloy := lt_of_cell hit.cy
      have hlb := lt_of_cell c5
      have hlbw := lt_of_cell hit.cb
      have HV := Lib.hid hv
      clear ih hit hj hle hin hnd hl hf hv hc host
      refine calls_of_wp_marks Try.func142 rfl ?_
      simp only [Try.ntmps142, List.size_toArray, List.length_cons, List.length_nil, Nat.reduceAdd, Nat.reduceSub, Array.replicate_succ, Array.replicate_zero, List.push_toArray, List.append_toArray, List.nil_append, List.cons_append]
      have hx1 : Kept X (((X.alloc (.cells #[.int .u32 (sI (setS l))] 93)).alloc (.cells #[.bool false] 4)).drew) := (((Kept.refl X).alloc _).alloc _).drew
      have hz1 : (((X.alloc (.cells #[.int .u32 (sI (setS l))] 93)).alloc (.cells #[.bool false] 4)).drew).heap.size = X.heap.size + 2 := by simp
      have hc5 : (((X.alloc (.cells #[.int .u32 (sI (setS l))] 93)).alloc (.cells #[.bool false] 4)).drew).cell? ⟨X.heap.size, 0, none⟩ = some (.int .u32 (sI (setS l))) := by simp [go_sem]
      have hc6 : (((X.alloc (.cells #[.int .u32 (sI (setS l))] 93)).alloc (.cells #[.bool false] 4)).drew).cell? ⟨X.heap.size + 1, 0, none⟩ = some (.bool false) := by simp [go_sem]
      have hf6 : (((X.alloc (.cells #[.int .u32 (sI (setS l))] 93)).alloc (.cells #[.bool false] 4)).drew).frozen? ⟨X.heap.size + 1, 0, none⟩ = false := by simp [go_sem]
      have HX1 := Lib.hid hx1
      have HZ1 := Lib.hid hz1
      have HC5 := Lib.hid hc5
      have HC6 := Lib.hid hc6
      have HF6 := Lib.hid hf6
      clear hx1 hz1 hc5 hc6 hf6
      go_wp2
      refine region_tail 6 (by kernel_rfl) (by kernel_rfl) ?_
      simp only [List.take_succ_cons, List.take_zero, List.drop_succ_cons, List.drop_zero]
      repeat still_step
      refine wpStill_nil ?_
      go_wp2_with fail
      generalize hX1 : (((X.alloc (.cells #[.int .u32 (sI (setS l))] 93)).alloc (.cells #[.bool false] 4)).drew) = X1 at *
      clear hX1
      refine (ready_any b W (setS l) X1 ((HHOST.out.web HJ.out).kept HX1.out)).mono ?_
      rintro e X2 ⟨d1, d2, rfl, hd1, hd2, hstat, hk2⟩
      have hz := HZ1.out
      have hs2 := hk2.size
      have HST := Lib.hid hstat
      have HK2 := Lib.hid hk2
      have HSZ : Hid (X.heap.size + 2 ≤ X2.heap.size ∧ d1 ≥ X.heap.size + 2 ∧ d2 ≥ X.heap.size + 2 ∧ d1 < X2.heap.size ∧ d2 < X2.heap.size) := ⟨by omega, by omega, by omega, lt_of_cell hstat.c1, lt_of_cell hstat.c2⟩
      have HKX : Hid (Kept X X2) := HX1.out.trans hk2
      obtain ⟨R1, hR1⟩ : ∃ R1 : Nat → Prop, R1 = fun r => R r ∨ r = X.heap.size + 1 := ⟨_, rfl⟩
      have HR1 := Lib.hid hR1
      have hap : Hid (∀ v' : Value, (∀ r, v'.ownBlock = some r → v.ownBlock = some r ∨ X2.heap.size ≤ r) → ∀ k, X.heap.size ≤ k → k < X2.heap.size → k ≠ X.heap.size + 1 → ¬ TR bl v' R1 k) := by
        intro v' h1 k hk1 hk2 hk3 ht
        rcases ht with e | e | e
        · omega
        · rcases h1 k e with e | e
          · have := (HIT.out.own_lt e).2; omega
          · omega
        · rw [HR1.out] at e
          rcases e with e | e
          · have := (HIT.out.tr_lt (.inr (.inr e))).2; omega
          · exact hk3 e
      have hit2 : Hid (It B bl ow oy bw b L R1 v v l X2) := by
        rw [hR1]
        exact (HIT.out.kept HKX.out).more (p := X.heap.size + 1) (by omega) ⟨fun h => by have := (HIT.out.tr_lt h).2; omega, by omega, by omega, by omega⟩ (hk2.cell HC6.out) ((hk2.cells.2 _ 0 (lt_of_cell HC6.out)).trans HF6.out)
      have hj2 : Hid (J (TR bl v R1) pre X2) := by
        refine HHOST.out.turn HJ.out (grownBy_kept (World.grownBy.refl X none) HKX.out) (fun r e => by cases e) (fun r h => ?_)
        rw [hR1] at h
        rcases h with h | h | h | h
        · exact .inl (.inl h)
        · exact .inl (.inr (.inl h))
        · exact .inl (.inr (.inr h))
        · exact .inr (by omega)
      have h5 : Hid (X2.cell? ⟨X.heap.size, 0, none⟩ = some (.int .u32 (sI (setS l)))) := hk2.cell HC5.out
      clear hstat hk2 hd1 hd2 hz hR1 c1 c4 c5 hs2
      go_wp2_with fail
      refine range_ready (c1 := d1) (c2 := d2) (b := b) (W := W) (d := setS l) rfl HST.out hn rfl
        (fun xs Y => InI B bl ow oy bw b L J l v R1 X.heap.size X2 (pre ++ (xs.map Subtype.val).flatMap fun p => ordersF W f (setS l ||| oneS p) (l ++ [(p : Int)])) Y)
        (fun cd xs Y => cd = .ret ∧ InX B bl Jx v R1 (X.heap.size + 1) X2 pre ((xs.map Subtype.val).flatMap fun p => ordersF W f (setS l ||| oneS p) (l ++ [(p : Int)])) Y) ?hI ?hIx ?h0
        (fun x => { tmps := #[.int .u32 (sI (setS l)), .pointer (some ⟨bl, 0, none⟩), .pointer (some ⟨ow, 0, none⟩), .pointer (some ⟨oy, 0, none⟩), .pointer (some ⟨bw, 0, none⟩), .pointer (some ⟨X.heap.size, 0, none⟩), .pointer (some ⟨X.heap.size + 1, 0, none⟩), .int .i64 x.val,
          .slice ao l.length c, .int .i64 l.length, .pointer (some ⟨b, 0, none⟩), .pointer (some ⟨b, 0, none⟩), .pointer (some ⟨b, 0, none⟩), .int .i64 W.n, .bool false, undef, undef, undef, .pointer (some ⟨b, 0, none⟩), .int .u32 (sI (setS l)), .func (.func 146) #[] #[.pointer (some ⟨d1, 0, none⟩), .pointer (some ⟨d2, 0, none⟩)], .int .i64 x.val,
          undef, undef, undef, undef, undef, undef, undef, undef, undef, undef, undef, undef, undef, undef, undef, undef], defers := [] }) ?assign ?body ?done ?stop
      case hI => exact InI.own HHOST.out (by have := HSZ.out.1; omega) ⟨by have := HSZ.out.1; omega, by have := HSZ.out.1; omega, by have := HSZ.out.1; omega⟩ _
      case hIx => exact fun cd => InX.own HHOST.out (by have := HSZ.out.1; omega) (cd = .ret) _
      case h0 => exact ⟨v, fun r e => .inl e, hit2.out, by simpa using hj2.out, h5.out, Wk.refl _ _ _⟩
      case assign =>
        intro l' x Y K hK
        gi_wp2
        exact hK
      case body =>
        rintro l' pre' x Y ⟨v', hv', hit', hj', hc5', hw'⟩ hstat
        have HV' := Lib.hid hv'
        have HI := Lib.hid hit'
        have HJ' := Lib.hid hj'
        have HC5' := Lib.hid hc5'
        have HW' := Lib.hid hw'
        have HT := Lib.hid hstat
        have hcv := hit'.cv
        have hblY := lt_of_cell hcv
        obtain ⟨hxn, hxr⟩ := mem_readyL.1 x.2
        have hx32 : x.val < 32 := by omega
        have HXL : Hid ((x.val : Int) ∉ l) := by
          unfold readyB at hxr
          rw [hasS_setS _ (fun p hp => by have := HIN.out p hp; omega)] at hxr
          simp at hxr
          exact hxr.1
        have HOL : Hid (l.length < 1099511627776) := by have := HLE.out; show _ < _; omega
        have HBS : Hid (B ≤ (Y.alloc (.cells #[Value.int .i64 (x.val : Int)] 3)).heap.size) := by have := hit'.n.1; show _ ≤ _; simp; omega
        have HCL : Hid ((Y.alloc (.cells #[Value.int .i64 (x.val : Int)] 3)).cell? ⟨Y.heap.size, 0, none⟩ = some (.int .i64 x.val)) := by show _ = _; simp [go_sem]
        clear hv' hit' hj' hc5' hw' hstat hxr
        gi_wp2_with (gi_at_builtin; refine append_at _ rfl _ _ rfl B v' l rfl (HI.out.own.kept ((Kept.refl _).alloc _)) Y.heap.size 1 x.val rfl HCL.out HOL.out HBS.out ?_; intro g' c' w1 hown1 hg1 hat1; have hA := (HI.out.kept ((Kept.refl Y).alloc (.cells #[Value.int .i64 (x.val : Int)] 3))).app (l' := l ++ [(x.val : Int)]) hg1 hown1 (hat1.imp (fun e => by simpa [Value.ownBlock] using e) (fun e => by simpa [Value.ownBlock] using e)); have hcv1 := hA.cv; have hfv1 := hA.fv; have HS := Lib.hid (step_app HHOST.out HI.out HJ'.out hown1 hg1 hat1); clear hown1 hg1 hat1 hA hcv hblY)
        obtain ⟨Z1, hZ1⟩ : ∃ Z, Z = (w1.setCell ⟨bl, 0, none⟩ (.slice (some ⟨g', 0, none⟩) (l.length + 1) c')) := ⟨_, rfl⟩
        rw [← hZ1] at HS ⊢
        obtain ⟨s1, s2, s3, s4⟩ := HS.out
        have hapY := hap.out v' HV'.out
        have S1 := Lib.hid s1
        have S2 := Lib.hid s2
        have S3 := Lib.hid s3
        have S4 := Lib.hid s4
        have k1 := s1.cb
        have k2 := s3.cell HC5'.out (by omega) (hapY _ (by omega) (by have := HSZ.out.1; omega) (by omega))
        unfold walkV at k1
        have hlo : l.length + 1 < W.n + 1 := by have := HLE.out; omega
        have hnd2 : (l ++ [(x.val : Int)]).Nodup := by
          rw [List.nodup_append]
          exact ⟨HND.out, by simp, fun a ha b hb e => by simp at hb; subst hb; subst e; exact HXL.out ha⟩
        have hin2 : ∀ p ∈ l ++ [(x.val : Int)], 0 ≤ p ∧ p < (W.n : Int) := fun p hp => by
          rcases List.mem_append.1 hp with h | h
          · exact HIN.out p h
          · simp at h; subst h; omega
        have hih := IH.out (l ++ [(x.val : Int)]) _ R1 _ Z1.drew (by have := HF.out; have := HLE.out; simp; omega) (by simp; omega) hin2 hnd2 (s1.kept (Kept.refl _).drew) (HHOST.out.turn s2 (grownBy_kept (World.grownBy.refl Z1 none) (Kept.refl Z1).drew) (fun r e => by cases e) (fun r h => .inl h))
        rw [setS_snoc_nat] at hih
        have HIH := Lib.hid hih
        clear hih s1 s2 s3 s4 HS hlo hnd2 hin2 hcv1 hfv1 hZ1 hapY
        refine regionIn_tail 5 (by kernel_rfl) (by kernel_rfl) (by kernel_rfl) ?_
        simp only [List.take_succ_cons, List.take_zero, List.drop_succ_cons, List.drop_zero]
        iterate 3 still_step
        still_call Calls_still (one_any _ _ hx32)
        still_step
        refine wpStill_nil ?_
        go_wp2_with fail
        refine HIH.out.mono ?_
        clear HIH k1 k2
        have HRY : Hid (∀ r, TR bl v' R1 r → TR bl v R1 r ∨ X2.heap.size ≤ r) := fun r h => by
          rcases h with h | h | h
          · exact .inl (.inl h)
          · exact (HV'.out r h).imp (fun e => .inr (.inl e)) id
          · exact .inl (.inr (.inr h))
        have HYS : Hid (X2.heap.size ≤ Y.heap.size) := HW'.out.size
        have HAP : Hid ((B ≤ d1 ∧ B ≤ d2 ∧ B ≤ X2.heap.size) ∧ ¬ TR bl v' R1 d1 ∧ ¬ TR bl v' R1 d2 ∧ ¬ TR bl v' R1 X.heap.size) := by
          have hS := HSZ.out
          have hap2 := hap.out v' HV'.out
          exact ⟨⟨by omega, by omega, by omega⟩, hap2 d1 (by omega) (by omega) (by omega), hap2 d2 (by omega) (by omega) (by omega), hap2 _ (by omega) (by omega) (by omega)⟩
        have HLL : Hid (wrap64 (l.length : Int) = (l.length : Int)) := IntWalk.wrap64_in _ (by have := HLE.out; omega)
        have HBX : Hid (B ≤ X.heap.size) := hB
        rintro e Y3 (⟨rfl, v3, hv3, hit3, hj3, hw3⟩ | ⟨rfl, T3, q3, ht1, ht2, hq3, hj3, hr3, hw3⟩)
        · obtain ⟨g3, n3, c3, hv3e, hlc, hwr, hln⟩ := pop_facts hit3.own (Nat.lt_of_lt_of_le HLE.out hn)
          subst hv3e
          have HV3 := Lib.hid hv3
          have HI3 := Lib.hid hit3
          have HJ3 := Lib.hid hj3
          have HW3 := Lib.hid hw3
          have cv3 := hit3.cv
          have fv3 := hit3.fv
          have lt3 := lt_of_cell cv3
          clear hv3 hit3 hj3 hw3
          go_wp2
          unfold onlyN
          gi_wp2
          obtain rfl : l.length = n3 := hln.out
          have hz13 : Wk B (TR bl v' R1) Y (Y3.setCell ⟨bl, 0, none⟩ (.slice (some ⟨g3, 0, none⟩) l.length c3)) :=
            (S3.out.trans (T' := TR bl (.slice (some ⟨g', 0, none⟩) (l.length + 1) c') R1) (⟨HW3.out.size, HW3.out.same⟩ : Wk B _ Z1 Y3) (fun r h => by
              rcases h with h | h | h
              · exact .inl (.inl h)
              · have h : g' = r := by simpa [Value.ownBlock] using h
                subst h
                exact S4.out.imp (fun e => .inr (.inl e.symm)) id
              · exact .inl (.inr (.inr h)))).trans (T' := fun r => r = bl) (Wk.of_grownBy (grownBy_setCell' Y3 bl _) (fun r e => by cases e; exact .inl rfl)) (fun r h => .inl (.inl h))
          have hj4 := HHOST.out.turn (T' := TR bl (.slice (some ⟨g3, 0, none⟩) l.length c3) R1) HJ3.out (grownBy_setCell' Y3 bl (.slice (some ⟨g3, 0, none⟩) l.length c3)) (fun r e => by cases e; exact .inl (.inl rfl)) (fun r h => .inl h)
          obtain ⟨⟨b1, b2, b3⟩, n1, n2, n3⟩ := HAP.out
          refine ⟨HI.out.keeps hz13 b3, ⟨hz13.cell HT.out.c1 b1 n1, hz13.cell HT.out.c2 b2 n2, HHOST.out.web hj4⟩, .slice (some ⟨g3, 0, none⟩) l.length c3, fun r e => ?_, HI3.out.pop.store, ?_, hz13.cell HC5'.out HBX.out n3, HW'.out.trans (T' := TR bl v' R1) hz13 HRY.out⟩
          · have h1 := HV3.out r e
            rcases h1 with h1 | h1
            · have h1 : g' = r := by simpa [Value.ownBlock] using h1
              subst h1
              rcases S4.out with h2 | h2
              · exact HV'.out _ h2.symm
              · exact .inr (Nat.le_trans HYS.out h2)
            · have h2 : X2.heap.size ≤ r := Nat.le_trans HYS.out (Nat.le_trans S3.out.size h1)
              exact .inr h2
          · have e : pre ++ ((pre' ++ [x]).map Subtype.val).flatMap (fun p => ordersF W f (setS l ||| oneS p) (l ++ [(p : Int)])) = pre ++ (pre'.map Subtype.val).flatMap (fun p => ordersF W f (setS l ||| oneS p) (l ++ [(p : Int)])) ++ ordersF W f (setS l ||| oneS x.val) (l ++ [(x.val : Int)]) := by
              rw [List.map_append, List.flatMap_append, ← List.append_assoc]
              simp
            rw [e]
            exact hj4
        · have HJ3 := Lib.hid hj3
          have HT1 := Lib.hid ht1
          have HT2 := Lib.hid ht2
          have HQ3 := Lib.hid hq3
          have HW3 := Lib.hid hw3
          have hp6 : R1 (X.heap.size + 1) := by rw [HR1.out]; exact .inr rfl
          obtain ⟨⟨u6, cv3⟩, fv3⟩ := hr3 _ hp6
          have HR3 := Lib.hid hr3
          have HP6 := Lib.hid hp6
          have lt3 := lt_of_cell cv3
          clear hj3 ht1 ht2 hq3 hw3 hr3 hp6
          go_wp2
          unfold onlyN
          gi_wp2
          have hz13 : Wk B (TR bl v' R1) Y (Y3.setCell ⟨X.heap.size + 1, 0, none⟩ (.bool false)) :=
            (S3.out.trans (T' := TR bl (.slice (some ⟨g', 0, none⟩) (l.length + 1) c') R1) (⟨HW3.out.size, HW3.out.same⟩ : Wk B _ Z1 Y3) (fun r h => by
              rcases h with h | h | h
              · exact .inl (.inl h)
              · have h : g' = r := by simpa [Value.ownBlock] using h
                subst h
                exact S4.out.imp (fun e => .inr (.inl e.symm)) id
              · exact .inl (.inr (.inr h)))).trans (T' := fun r => r = X.heap.size + 1) (Wk.of_grownBy (grownBy_setCell' Y3 (X.heap.size + 1) _) (fun r e => by cases e; exact .inl rfl)) (fun r h => .inl (.inr (.inr (by rw [h]; exact HP6.out))))
          refine ⟨HI.out.keeps hz13 HAP.out.1.2.2, rfl, T3, (pre'.map Subtype.val).flatMap (fun p => ordersF W f (setS l ||| oneS p) (l ++ [(p : Int)])) ++ q3, HT1.out, fun r h => ?_, ?_, ?_, cell_set_same cv3, fun r h => ?_, HW'.out.trans (T' := TR bl v' R1) hz13 HRY.out⟩
          · rcases HT2.out r h with h1 | h1
            · rcases h1 with h1 | h1 | h1
              · exact .inl (.inl h1)
              · have h1 : g' = r := by simpa [Value.ownBlock] using h1
                subst h1
                rcases S4.out with h2 | h2
                · exact HRY.out _ (.inr (.inl h2.symm))
                · exact .inr (Nat.le_trans HYS.out h2)
              · exact .inl (.inr (.inr h1))
            · have h2 : X2.heap.size ≤ r := Nat.le_trans HYS.out (Nat.le_trans S3.out.size h1)
              exact .inr h2
          · rw [List.map_append, List.flatMap_append]
            refine List.prefix_append_right_inj _ |>.2 ?_
            simpa using HQ3.out
          · rw [← List.append_assoc]
            exact HHOST.out.turnx HJ3.out (grownBy_setCell' Y3 (X.heap.size + 1) _) (fun r e => by cases e; exact .inl (HT1.out _ HP6.out)) (fun r h => .inl h)
          · obtain ⟨⟨u, hu⟩, hf⟩ := HR3.out r h
            refine ⟨?_, by rw [World.frozen?_setCell]; exact hf⟩
            by_cases e : r = X.heap.size + 1
            · subst e; exact ⟨_, cell_set_same hu⟩
            · exact ⟨u, cell_set_block hu e⟩
      case done =>
        rintro De xs Y hD hxs ⟨v', hv', hit', hj', hc5', hw'⟩ hdef
        rw [hxs, ← HALL.out] at hj'
        have hp6 : R1 (X.heap.size + 1) := by rw [HR1.out]; exact .inr rfl
        obtain ⟨_, _, _, _, _, ⟨u6, cv3⟩, fv3⟩ := hit'.rc _ hp6
        have lt3 := lt_of_cell cv3
        have HV' := Lib.hid hv'
        have HI := Lib.hid hit'
        have HJ' := Lib.hid hj'
        have HW' := Lib.hid hw'
        have HDEF := Lib.hid hdef
        have HDD := Lib.hid hD
        have HP6 := Lib.hid hp6
        clear hv' hit' hj' hc5' hw' hdef hD hp6 hxs
        go_wp2
        have hS := HSZ.out
        have hd2 : (Y.setCell ⟨X.heap.size + 1, 0, none⟩ (.bool true)).heap[De]? = some (.deferred (some [])) := heap_set_deferred HDEF.out _ _
        have hgp := grownBy_putObj' (Y.setCell ⟨X.heap.size + 1, 0, none⟩ (.bool true)) De (.deferred none)
        have hdn : ¬ TR bl v' R1 De := fun h => by
          have := (HI.out.setR HP6.out (.bool true)).tr_cells h hd2
          cases this
        have hdd := HDD.out
        have hne6 : some (X.heap.size + 1) ≠ some De := fun e => by have := Option.some.inj e; omega
        refine ⟨by simp, .inl ⟨De, _, rfl, run_takeDeferred hd2, ?_⟩⟩
        refine ⟨_, results_cell rfl _ _ ⟨X.heap.size + 1, 0, none⟩ rfl (.bool true) (load_bool (hgp.cell (cell_set_same cv3) hne6)), .inl ⟨rfl, v', fun r e => (HV'.out r e).imp id (fun h => by omega), ?_, ?_, ?_⟩⟩
        · refine ((HI.out.setR HP6.out (.bool true)).grown hgp (fun r e => ?_)).less (fun r h => by rw [HR1.out]; exact .inl h)
          cases e
          exact ⟨hdn, by omega, by omega, by omega⟩
        · have j1 := HHOST.out.turn (T' := TR bl v' R1) HJ'.out (grownBy_setCell' Y (X.heap.size + 1) (.bool true)) (fun r e => by cases e; exact .inl (.inr (.inr HP6.out))) (fun r h => .inl h)
          exact HHOST.out.turn j1 hgp (fun r e => by cases e; exact .inr ⟨by omega, _, hd2, rfl⟩) (fun r h => .inl (h.imp id (fun h => h.imp id (fun h => by rw [HR1.out]; exact .inl h))))
        · have w1 : Wk B (TR bl v R) X X2 := Wk.of_kept HKX.out
          have w2 := w1.trans (T' := TR bl v R1) HW'.out (fun r h => by
            rcases h with h | h | h
            · exact .inl (.inl h)
            · exact .inl (.inr (.inl h))
            · rw [HR1.out] at h
              rcases h with h | h
              · exact .inl (.inr (.inr h))
              · exact .inr (by omega))
          exact (w2.trans (T' := fun r => r = X.heap.size + 1) (Wk.of_grownBy (grownBy_setCell' Y (X.heap.size + 1) _) (fun r e => by cases e; exact .inl rfl)) (fun r h => .inr (by omega))).trans (T' := fun r => r = De) (Wk.of_grownBy hgp (fun r e => by cases e; exact .inl rfl)) (fun r h => .inr (by omega))
      case stop =>
        rintro De cd xs Y hD hpre ⟨rfl, T', q, ht1, ht2, hq, hjx, cv3, hrc, hw'⟩ hdef
        have HRC := Lib.hid hrc
        have hp6 : R1 (X.heap.size + 1) := by rw [HR1.out]; exact .inr rfl
        have lt3 := lt_of_cell cv3
        have HT1 := Lib.hid ht1
        have HT2 := Lib.hid ht2
        have HQ := Lib.hid hq
        have HPRE := Lib.hid hpre
        have HJX := Lib.hid hjx
        have HW' := Lib.hid hw'
        have HDEF := Lib.hid hdef
        have HDD := Lib.hid hD
        have HP6 := Lib.hid hp6
        have HC6' := Lib.hid cv3
        clear ht1 ht2 hq hjx hw' hdef hD hp6 hpre hrc
        go_wp2
        have hS := HSZ.out
        have hd2 : Y.heap[De]? = some (.deferred (some [])) := HDEF.out
        have hgp := grownBy_putObj' Y De (.deferred none)
        have hdd := HDD.out
        have hne6 : some (X.heap.size + 1) ≠ some De := fun e => by have := Option.some.inj e; omega
        have c6 := HC6'.out
        refine ⟨by simp, .inl ⟨De, _, rfl, run_takeDeferred hd2, ?_⟩⟩
        refine ⟨_, results_cell rfl _ _ ⟨X.heap.size + 1, 0, none⟩ rfl (.bool false) (load_bool (hgp.cell c6 hne6)), .inr ⟨rfl, T', q, fun r h => HT1.out r (by rw [HR1.out]; exact .inl h), fun r h => ?_, ?_, ?_, fun r h => ?_, ?_⟩⟩
        · rcases HT2.out r h with h1 | h1
          · rcases h1 with h1 | h1 | h1
            · exact .inl (.inl h1)
            · exact .inl (.inr (.inl h1))
            · rw [HR1.out] at h1
              rcases h1 with h1 | h1
              · exact .inl (.inr (.inr h1))
              · exact .inr (by omega)
          · exact .inr (by omega)
        · obtain ⟨t, ht⟩ := HPRE.out
          rw [HALL.out, ← ht, List.flatMap_append]
          exact HQ.out.trans (List.prefix_append _ _)
        · exact HHOST.out.turnx HJX.out hgp (fun r e => by cases e; exact .inr ⟨by omega, _, hd2, rfl⟩) (fun r h => .inl h)
        · obtain ⟨⟨u, hu⟩, hf⟩ := HRC.out r (by rw [HR1.out]; exact .inl h)
          have hne : some r ≠ some De := fun e => by
            have e := Option.some.inj e
            subst e
            obtain ⟨o, ho, hc⟩ := cells_of_cell hu
            rw [hd2] at ho
            cases ho
            cases hc
          exact ⟨⟨u, hgp.cell hu hne⟩, (World.frozen?_of_block (a := ⟨r, 0, none⟩) (hgp.block r (lt_of_cell hu) hne)).trans hf⟩
        · have w1 : Wk B (TR bl v R) X X2 := Wk.of_kept HKX.out
          have w2 := w1.trans (T' := TR bl v R1) HW'.out (fun r h => by
            rcases h with h | h | h
            · exact .inl (.inl h)
            · exact .inl (.inr (.inl h))
            · rw [HR1.out] at h
              rcases h with h | h
              · exact .inl (.inr (.inr h))
              · exact .inr (by omega))
          exact w2.trans (T' := fun r => r = De) (Wk.of_grownBy hgp (fun r e => by cases e; exact .inl rfl)) (fun r h => .inr (by omega))
end Go.Proofs.Yteljjkghjbofnaa

/-! slices.Clone at numbers; orders. -/
set_option maxRecDepth 100000
namespace Go.Proofs.Yteljjkghjbofnaa
open Go Go.Proofs Go.RowKit
attribute [local go_sem] Oper.semAt_some

set_option maxHeartbeats 400000 in
theorem clone_any (l : List Int) (bk off c : Nat) (w : World) (hl : Ints w (some ⟨bk, off, none⟩) l) (hlen : l.length < 1099511627776) :
    Calls Try.prog 89 #[.slice (some ⟨bk, off, none⟩) l.length c] w (fun e w' => ∃ v, e = .returned v ∧ OwnI w' w.heap.size v l ∧ Kept w w') := by
  have HL := Lib.hid hl
  have hown : Hid ((w.alloc (.cells #[] 3)).ownsRow w.heap.size 3 1 (.slice (some ⟨w.heap.size, 0, none⟩) 0 0) 0 []) := ⟨by simp, .inr ⟨w.heap.size, 0, #[], rfl, Nat.le_refl _, heap_alloc_new w _, Nat.le_refl _, Nat.zero_le _, rfl, rfl⟩⟩
  have hnews : Hid (∀ (j : Nat) (u : Value), (l.map (Value.int .i64))[j]? = some u → (w.alloc (.cells #[] 3)).cell? ((⟨bk, off, none⟩ : Addr).add j) = some u) := by
    intro j u hu
    rw [Addr.add_mid]
    rw [List.getElem?_map] at hu
    cases hx : l[j]? with
    | none => rw [hx] at hu; cases hu
    | some x =>
      rw [hx] at hu
      cases hu
      obtain ⟨hj, rfl⟩ := List.getElem?_eq_some_iff.1 hx
      obtain ⟨b', o', e, hc⟩ := HL.out j hj
      simp only [Option.some.injEq, Addr.mk.injEq] at e
      obtain ⟨rfl, rfl, -⟩ := e
      exact ((Kept.refl w).alloc _).cell hc
  have HLEN := Lib.hid hlen
  obtain ⟨i0, hi, hz0, hz1, hz2⟩ := info_parts info3
  have HI := Lib.hid hi
  have HZ0 := Lib.hid hz0
  have HZ1 := Lib.hid hz1
  have HZ2 := Lib.hid hz2
  clear hl hlen hi hz0 hz1 hz2
  go_enter Try.func89, Try.ntmps89
  go_wp2_with (at_builtin; refine wpList_append_own _ rfl _ _ 31 rfl w.heap.size 3 i0 (.int .i64 0) 1 8 Try.underlying31 HI.out HZ0.out HZ1.out HZ2.out rfl (by decide) _ 0 _ rfl hown.out ⟨bk, off, none⟩ l.length c (l.map (Value.int .i64)) rfl (by simp) hnews.out (fun u hu => by obtain ⟨_, _, rfl⟩ := List.mem_map.1 hu; rfl) (by have := HLEN.out; unfold maxLen; omega) (by have := HLEN.out; omega) (by simp) ?_; intro v' w1 hown1 hg1 _; have HO1 := Lib.hid hown1; have HG1 := Lib.hid hg1; clear hown1 hg1)
  go_ret
  refine ⟨v', rfl, ?_, ?_⟩
  · have h := HO1.out
    unfold OwnI
    rw [Nat.zero_add, List.nil_append] at h
    exact h
  · exact ((Kept.refl w).alloc _).grown HG1.out (fun r e => by cases e; exact Nat.le_refl _)

set_option maxHeartbeats 800000 in
theorem orders_any (B b L : Nat) (W : Web) (hn : W.n ≤ 24) (hn0 : 0 < W.n) (J Jx : (Nat → Prop) → List (List Int) → World → Prop) (host : Host B b L W J Jx) (X : World) (hB : B ≤ X.heap.size) (hj : J (fun _ => False) [] X) :
    Calls Try.prog 87 #[.pointer (some ⟨b, 0, none⟩), .func (.yield L) #[] #[]] X (fun e Y => (∃ v, e = .returned v) ∧ ((∃ T, J T (ordersL W) Y) ∨ ∃ T q, q <+: ordersL W ∧ Jx T q Y)) := by
  have HJ := Lib.hid hj
  have HHOST := Lib.hid host
  clear hj host
  have hsf := fun (a : Addr) (c : Array Value) (w : World) => run_store Try.prog w a (.func (.func 142) #[] c) .plain rfl
  go_enter Try.func87, Try.ntmps87
  have hx4 : Kept X ((((X.alloc (.cells #[.pointer (some ⟨b, 0, none⟩)] 88)).alloc (.cells #[.func (.yield L) #[] #[]] 116)).alloc (.cells #[.slice none 0 0] 31)).alloc (.cells #[walkV (X.heap.size + 2) X.heap.size (X.heap.size + 1) (X.heap.size + 3)] 152)) := ((((Kept.refl X).alloc _).alloc _).alloc _).alloc _
  have hz : (((X.alloc (.cells #[.pointer (some ⟨b, 0, none⟩)] 88)).alloc (.cells #[.func (.yield L) #[] #[]] 116)).alloc (.cells #[.slice none 0 0] 31)).heap.size = X.heap.size + 3 := by simp
  have hit : It B (X.heap.size + 2) X.heap.size (X.heap.size + 1) (X.heap.size + 3) b L (fun _ => False) (.slice none 0 0) (.slice none 0 0) [] ((((X.alloc (.cells #[.pointer (some ⟨b, 0, none⟩)] 88)).alloc (.cells #[.func (.yield L) #[] #[]] 116)).alloc (.cells #[.slice none 0 0] 31)).alloc (.cells #[walkV (X.heap.size + 2) X.heap.size (X.heap.size + 1) (X.heap.size + 3)] 152)) :=
    ⟨by simp [go_sem], by simp [go_sem], by simp [go_sem], by simp [go_sem], by simp [go_sem], OwnI.nil _ _, fun r e => (by cases e), fun r h => h.elim, by omega⟩
  have hsz4 : ((((X.alloc (.cells #[.pointer (some ⟨b, 0, none⟩)] 88)).alloc (.cells #[.func (.yield L) #[] #[]] 116)).alloc (.cells #[.slice none 0 0] 31)).alloc (.cells #[walkV (X.heap.size + 2) X.heap.size (X.heap.size + 1) (X.heap.size + 3)] 152)).heap.size = X.heap.size + 4 := by simp
  have hj4 := HHOST.out.turn (T' := TR (X.heap.size + 2) (.slice none 0 0) (fun _ => False)) HJ.out (grownBy_kept (World.grownBy.refl X none) hx4) (fun r e => by cases e) (fun r h => by
    rcases h with h | h | h
    · exact .inr (by rw [hsz4]; omega)
    · cases h
    · exact h.elim)
  have hw := walk_any B (X.heap.size + 2) X.heap.size (X.heap.size + 1) (X.heap.size + 3) b L W hn hn0 J Jx HHOST.out (W.n + 1) [] (.slice none 0 0) (fun _ => False) [] _ (by simp) (by simp) (by simp) (by simp) hit hj4
  rw [show setS [] = 0#32 from rfl] at hw
  have HW := Lib.hid hw
  clear hx4 hit hsz4 hj4 hw
  unfold walkV at HW
  go_wp2_with fail
  refine HW.out.mono ?_
  rintro e Y (⟨rfl, v', -, -, hj5, -⟩ | ⟨rfl, T', q, -, -, hq, hjx, -, -⟩)
  · have HJ5 := Lib.hid hj5
    clear hj5
    go_wp2
    refine bodyPost_end (results_none rfl _ _ _) rfl ?_
    exact ⟨⟨_, rfl⟩, .inl ⟨_, HJ5.out⟩⟩
  · have HJX := Lib.hid hjx
    have HQ := Lib.hid hq
    clear hjx hq
    go_wp2
    refine bodyPost_end (results_none rfl _ _ _) rfl ?_
    exact ⟨⟨_, rfl⟩, .inr ⟨T', q, HQ.out, HJX.out⟩⟩
end Go.Proofs.Yteljjkghjbofnaa

/-! Wait. -/
set_option maxRecDepth 100000
namespace Go.Proofs.Yteljjkghjbofnaa
open Go Go.Proofs Go.RowKit
attribute [local go_sem] Oper.semAt_some

def endOf (W : Web) (dry : Int) (l : List Int) : Int := (daysOf W dry l).getD (l.getD (l.length - 1) 0).toNat 0
def waitStep (W : Web) (dry : Int) (st : Int × List Int × List Int) (l : List Int) : Int × List Int × List Int := if endOf W dry l < st.1 then (endOf W dry l, l, daysOf W dry l) else st
def waitAll (W : Web) (dry : Int) (ls : List (List Int)) : Int × List Int × List Int := ls.foldl (waitStep W dry) (2000, [], [])
theorem waitAll_snoc (W : Web) (dry : Int) (ls : List (List Int)) (l : List Int) : waitAll W dry (ls ++ [l]) = waitStep W dry (waitAll W dry ls) l := by unfold waitAll; rw [List.foldl_append]; rfl

/-- v is a slice of the list l, in a block that T does not have. -/
def LstT (T : Nat → Prop) (X : World) (v : Value) (l : List Int) : Prop := ∃ ao c, v = .slice ao l.length c ∧ Ints X ao l ∧ ∀ a, ao = some a → ¬ T a.block ∧ a.block < X.heap.size
theorem LstT.nil (T : Nat → Prop) (X : World) : LstT T X (.slice none 0 0) [] := ⟨none, 0, rfl, Ints.nil _ _, fun a h => by cases h⟩
theorem LstT.turn {B : Nat} {T T' : Nat → Prop} {X Y : World} {row : Option Nat} {v : Value} {l : List Int} (h : LstT T X v l) (hg : X.grownBy Y row) (hr : ∀ r, row = some r → T r ∨ (B ≤ r ∧ ∃ o : Obj, X.heap[r]? = some o ∧ o.isCells = false))
    (ht : ∀ r, T' r → T r ∨ (X.heap.size ≤ r ∧ r < Y.heap.size)) : LstT T' Y v l := by
  obtain ⟨ao, c, hv, hi, ha⟩ := h
  refine ⟨ao, c, hv, fun i hi' => ?_, fun a e => ⟨fun h' => (ht _ h').elim (ha a e).1 (fun h2 => by have := (ha a e).2; omega), Nat.lt_of_lt_of_le (ha a e).2 hg.size⟩⟩
  obtain ⟨b, off, e, hc⟩ := hi i hi'
  refine ⟨b, off, e, hg.cell hc (fun e2 => ?_)⟩
  rcases hr b e2.symm with h1 | ⟨_, o, ho, hoc⟩
  · exact (ha _ e).1 h1
  · obtain ⟨o', ho', hc'⟩ := cells_of_cell hc
    rw [ho] at ho'
    cases ho'
    rw [hoc] at hc'
    cases hc'
theorem LstT.kept {T : Nat → Prop} {X Y : World} {v : Value} {l : List Int} (h : LstT T X v l) (hk : Kept X Y) : LstT T Y v l := by
  obtain ⟨ao, c, hv, hi, ha⟩ := h
  exact ⟨ao, c, hv, hi.kept hk, fun a e => ⟨(ha a e).1, Nat.lt_of_lt_of_le (ha a e).2 hk.size⟩⟩
theorem LstT.set {T : Nat → Prop} {X : World} {v : Value} {l : List Int} (h : LstT T X v l) {k o : Nat} (u : Value) (hk : ∀ ao c a, v = .slice (some a) ao c → a.block ≠ k) : LstT T (X.setCell ⟨k, o, none⟩ u) v l := by
  obtain ⟨ao, c, hv, hi, ha⟩ := h
  refine ⟨ao, c, hv, fun i hi' => ?_, fun a e => ⟨(ha a e).1, by have := (ha a e).2; simpa [World.setCell] using this⟩⟩
  obtain ⟨b, off, e, hc⟩ := hi i hi'
  subst e
  exact ⟨b, off, rfl, cell_set_block hc (hk _ _ _ hv)⟩

structure JB (w : World) (B b D L t3 t4 t6 t8 t9 : Nat) : Prop where
  lo : w.heap.size ≤ t3 ∧ w.heap.size ≤ t4 ∧ w.heap.size ≤ t6 ∧ w.heap.size ≤ t8 ∧ w.heap.size ≤ t9 ∧ w.heap.size ≤ D ∧ w.heap.size ≤ L
  hi : t3 < B ∧ t4 < B ∧ t6 < B ∧ t8 < B ∧ t9 < B ∧ D < B ∧ L < B ∧ b < B
  ne : t8 ≠ t9 ∧ t3 ≠ t8 ∧ t3 ≠ t9 ∧ t6 ≠ t8 ∧ t6 ≠ t9 ∧ t4 ≠ t8 ∧ t4 ≠ t9 ∧ b ≠ t8 ∧ b ≠ t9 ∧ L ≠ D

structure JW (w : World) (B b D L t3 t4 t6 t8 t9 : Nat) (W : Web) (dry : Int) (rc : Obj) (T : Nat → Prop) (st : Int × List Int × List Int) (X : World) : Prop where
  kept : Kept w X
  c3 : X.cell? ⟨t3, 0, none⟩ = some (.int .i64 dry)
  c6 : X.cell? ⟨t6, 0, none⟩ = some (.pointer (some ⟨b, 0, none⟩))
  c9 : X.cell? ⟨t9, 0, none⟩ = some (.int .i64 st.1)
  f9 : X.frozen? ⟨t9, 0, none⟩ = false
  c4 : (∃ u, X.cell? ⟨t4, 0, none⟩ = some u) ∧ (∃ u, X.cell? ⟨t4, 1, none⟩ = some u) ∧ ∀ o, X.frozen? ⟨t4, o, none⟩ = false
  c8 : ∃ v1 v2, X.cell? ⟨t8, 0, none⟩ = some v1 ∧ X.cell? ⟨t8, 1, none⟩ = some v2 ∧ LstT T X v1 st.2.1 ∧ LstT T X v2 st.2.2 ∧ (∀ a n c, v1 = .slice (some a) n c → B ≤ a.block) ∧ (∀ a n c, v2 = .slice (some a) n c → B ≤ a.block)
  f8 : ∀ o, X.frozen? ⟨t8, o, none⟩ = false
  web : WebAt X b W
  rec_ : X.heap[L]? = some rc
  def_ : X.heap[D]? = some (.deferred (some []))
  lt : ∀ r, T r → B ≤ r ∧ r < X.heap.size
  sz : B ≤ X.heap.size
  st1 : -1 ≤ st.1 ∧ st.1 ≤ 30000

theorem frozen_same {X Y : World} {row : Option Nat} {k o : Nat} (hg : X.grownBy Y row) (hk : k < X.heap.size) (hne : some k ≠ row) {x : Bool} (h : X.frozen? ⟨k, o, none⟩ = x) : Y.frozen? ⟨k, o, none⟩ = x :=
  (World.frozen?_of_block (a := ⟨k, o, none⟩) (hg.block k hk hne)).trans h

theorem JW.turn {w : World} {B b D L t3 t4 t6 t8 t9 : Nat} {W : Web} {dry : Int} {rc : Obj} {T T' : Nat → Prop} {st : Int × List Int × List Int} {X Y : World} {row : Option Nat} (hb : JB w B b D L t3 t4 t6 t8 t9) (h : JW w B b D L t3 t4 t6 t8 t9 W dry rc T st X)
    (hg : X.grownBy Y row) (hr : ∀ r, row = some r → T r ∨ (B ≤ r ∧ ∃ o : Obj, X.heap[r]? = some o ∧ o.isCells = false)) (ht : ∀ r, T' r → T r ∨ (X.heap.size ≤ r ∧ r < Y.heap.size)) : JW w B b D L t3 t4 t6 t8 t9 W dry rc T' st Y := by
  have hB : ∀ r, row = some r → B ≤ r := fun r e => (hr r e).elim (fun h' => (h.lt r h').1) (fun h => h.1)
  have hne : ∀ k, k < B → some k ≠ row := fun k hk e => by have := hB k e.symm; omega
  obtain ⟨b3, b4, b6, b8, b9, bD, bL, bb⟩ := hb.hi
  have hs := h.sz
  refine ⟨h.kept.grown hg (fun r e => Nat.le_trans (Nat.le_trans hb.lo.1 (Nat.le_of_lt b3)) (hB r e)), hg.cell h.c3 (hne _ b3), hg.cell h.c6 (hne _ b6), hg.cell h.c9 (hne _ b9), frozen_same hg (by omega) (hne _ b9) h.f9,
    ⟨h.c4.1.imp fun u hu => hg.cell hu (hne _ b4), h.c4.2.1.imp fun u hu => hg.cell hu (hne _ b4), fun o => frozen_same hg (by omega) (hne _ b4) (h.c4.2.2 o)⟩, ?_, fun o => frozen_same hg (by omega) (hne _ b8) (h.f8 o), h.web.grownNe hg (hne _ bb),
    (hg.block L (by omega) (hne _ bL)).trans h.rec_, (hg.block D (by omega) (hne _ bD)).trans h.def_, fun r h' => (ht r h').elim (fun h2 => ⟨(h.lt r h2).1, Nat.lt_of_lt_of_le (h.lt r h2).2 hg.size⟩) (fun h2 => ⟨by omega, h2.2⟩), Nat.le_trans h.sz hg.size, h.st1⟩
  obtain ⟨v1, v2, e1, e2, e3, e4, e5, e6⟩ := h.c8
  exact ⟨v1, v2, hg.cell e1 (hne _ b8), hg.cell e2 (hne _ b8), e3.turn (B := B) hg hr ht, e4.turn (B := B) hg hr ht, e5, e6⟩

theorem LstT.map {T : Nat → Prop} {X Y : World} {v : Value} {l : List Int} (h : LstT T X v l) (hc : ∀ (b o : Nat) (u : Value), X.cell? ⟨b, o, none⟩ = some u → (∀ ao n c, v = .slice (some ao) n c → b = ao.block) → Y.cell? ⟨b, o, none⟩ = some u) (hs : X.heap.size ≤ Y.heap.size) : LstT T Y v l := by
  obtain ⟨ao, c, hv, hi, ha⟩ := h
  refine ⟨ao, c, hv, fun i hi' => ?_, fun a e => ⟨(ha a e).1, Nat.lt_of_lt_of_le (ha a e).2 hs⟩⟩
  obtain ⟨b, off, e, hcc⟩ := hi i hi'
  refine ⟨b, off, e, hc b _ _ hcc (fun a n c' e2 => ?_)⟩
  rw [hv, e] at e2
  simp only [Value.slice.injEq, Option.some.injEq] at e2
  rw [← e2.1]
theorem JW.put {w : World} {B b D L t3 t4 t6 t8 t9 : Nat} {W : Web} {dry : Int} {r : Loop} {T : Nat → Prop} {st : Int × List Int × List Int} {X : World} (hb : JB w B b D L t3 t4 t6 t8 t9) (h : JW w B b D L t3 t4 t6 t8 t9 W dry (.loop r) T st X) (o : Obj) :
    JW w B b D L t3 t4 t6 t8 t9 W dry o T st (X.putObj L o) := by
  have hg := grownBy_putObj' X L o
  have hne : ∀ {k i : Nat} {u : Value}, X.cell? ⟨k, i, none⟩ = some u → some k ≠ some L := fun hc e => by
    have e := Option.some.inj e
    subst e
    obtain ⟨o', ho', hc'⟩ := cells_of_cell hc
    have := h.rec_
    simp only at ho'
    rw [this] at ho'
    cases ho'
    cases hc'
  obtain ⟨b3, b4, b6, b8, b9, bD, bL, bb⟩ := hb.hi
  have hs := h.sz
  obtain ⟨v1, v2, e1, e2, e3, e4, e5, e6⟩ := h.c8
  obtain ⟨u4, hu4⟩ := h.c4.1
  refine ⟨h.kept.grown hg (fun r e => by cases e; exact hb.lo.2.2.2.2.2.2), hg.cell h.c3 (hne h.c3), hg.cell h.c6 (hne h.c6), hg.cell h.c9 (hne h.c9), frozen_same hg (by omega) (hne h.c9) h.f9,
    ⟨h.c4.1.imp fun u hu => hg.cell hu (hne hu), h.c4.2.1.imp fun u hu => hg.cell hu (hne hu), fun o => frozen_same hg (by omega) (hne hu4) (h.c4.2.2 o)⟩, ⟨v1, v2, hg.cell e1 (hne e1), hg.cell e2 (hne e2), e3.map (fun b o u hc _ => hg.cell hc (hne hc)) hg.size, e4.map (fun b o u hc _ => hg.cell hc (hne hc)) hg.size, e5, e6⟩,
    fun o => frozen_same hg (by omega) (hne e1) (h.f8 o), h.web.grownNe hg (hne h.web.n), World.putObj_heap_same (by omega), (World.putObj_heap_other (fun e => hb.ne.2.2.2.2.2.2.2.2.2 e.symm)).trans h.def_, by simpa using h.lt, by simpa using h.sz, h.st1⟩
theorem heap_set_ne {X : World} {k j o : Nat} {u : Value} (h : j ≠ k) : (X.setCell ⟨k, o, none⟩ u).heap[j]? = X.heap[j]? := Below.heap_setCell X ⟨k, o, none⟩ u j h
theorem JW.set9 {w : World} {B b D L t3 t4 t6 t8 t9 : Nat} {W : Web} {dry : Int} {rc : Obj} {T : Nat → Prop} {st : Int × List Int × List Int} {X : World} (hb : JB w B b D L t3 t4 t6 t8 t9) (hL : L ≠ t9 ∧ D ≠ t9) (h : JW w B b D L t3 t4 t6 t8 t9 W dry rc T st X) (x : Int) (hx : -1 ≤ x ∧ x ≤ 30000) :
    JW w B b D L t3 t4 t6 t8 t9 W dry rc T (x, st.2) (X.setCell ⟨t9, 0, none⟩ (.int .i64 x)) := by
  obtain ⟨n1, n2, n3, n4, n5, n6, n7, n8, n9, n10⟩ := hb.ne
  obtain ⟨b3, b4, b6, b8, b9, bD, bL, bb⟩ := hb.hi
  obtain ⟨v1, v2, e1, e2, e3, e4, e5, e6⟩ := h.c8
  exact ⟨h.kept.setCell (p := ⟨t9, 0, none⟩) hb.lo.2.2.2.2.1 _, cell_set_block h.c3 n3, cell_set_block h.c6 n5, cell_set_same h.c9, by rw [World.frozen?_setCell]; exact h.f9,
    ⟨h.c4.1.imp fun u hu => cell_set_block hu n7, h.c4.2.1.imp fun u hu => cell_set_block hu n7, fun o => by rw [World.frozen?_setCell]; exact h.c4.2.2 o⟩,
    ⟨v1, v2, cell_set_block e1 n1, cell_set_block e2 n1, e3.set _ (fun ao c a e => by have := e5 a ao c e; omega), e4.set _ (fun ao c a e => by have := e6 a ao c e; omega), e5, e6⟩,
    fun o => by rw [World.frozen?_setCell]; exact h.f8 o, h.web.setOther n9, (heap_set_ne hL.1).trans h.rec_, (heap_set_ne hL.2).trans h.def_, fun r h' => by have := h.lt r h'; simpa [World.setCell] using this, by have := h.sz; simpa [World.setCell] using this, hx⟩
theorem JW.set8 {w : World} {B b D L t3 t4 t6 t8 t9 : Nat} {W : Web} {dry : Int} {rc : Obj} {T : Nat → Prop} {st : Int × List Int × List Int} {X : World} (hb : JB w B b D L t3 t4 t6 t8 t9) (hL : L ≠ t8 ∧ D ≠ t8) (h : JW w B b D L t3 t4 t6 t8 t9 W dry rc T st X) {v1 v2 : Value} {o1 d1 : List Int}
    (h1 : LstT T X v1 o1) (h2 : LstT T X v2 d1) (h3 : ∀ a n c, v1 = .slice (some a) n c → B ≤ a.block) (h4 : ∀ a n c, v2 = .slice (some a) n c → B ≤ a.block) :
    JW w B b D L t3 t4 t6 t8 t9 W dry rc T (st.1, o1, d1) ((X.setCell ⟨t8, 0, none⟩ v1).setCell ⟨t8, 1, none⟩ v2) := by
  obtain ⟨n1, n2, n3, n4, n5, n6, n7, n8, n9, n10⟩ := hb.ne
  obtain ⟨b3, b4, b6, b8, b9, bD, bL, bb⟩ := hb.hi
  obtain ⟨u1, u2, e1, e2, e3, e4, e5, e6⟩ := h.c8
  have k : ∀ {j i : Nat} {u : Value}, X.cell? ⟨j, i, none⟩ = some u → j ≠ t8 → ((X.setCell ⟨t8, 0, none⟩ v1).setCell ⟨t8, 1, none⟩ v2).cell? ⟨j, i, none⟩ = some u := fun hc hne => cell_set_block (cell_set_block hc hne) hne
  have f : ∀ j i, ((X.setCell ⟨t8, 0, none⟩ v1).setCell ⟨t8, 1, none⟩ v2).frozen? ⟨j, i, none⟩ = X.frozen? ⟨j, i, none⟩ := fun j i => by rw [World.frozen?_setCell, World.frozen?_setCell]
  exact ⟨(h.kept.setCell (p := ⟨t8, 0, none⟩) hb.lo.2.2.2.1 _).setCell (p := ⟨t8, 1, none⟩) hb.lo.2.2.2.1 _, k h.c3 n2, k h.c6 n4, k h.c9 (Ne.symm n1), (f _ _).trans h.f9,
    ⟨h.c4.1.imp fun u hu => k hu n6, h.c4.2.1.imp fun u hu => k hu n6, fun o => (f _ _).trans (h.c4.2.2 o)⟩,
    ⟨v1, v2, cell_set_off (cell_set_same e1) (by omega), cell_set_same (cell_set_off e2 (by omega)), (h1.set _ (fun ao c a e => by have := h3 a ao c e; omega)).set _ (fun ao c a e => by have := h3 a ao c e; omega), (h2.set _ (fun ao c a e => by have := h4 a ao c e; omega)).set _ (fun ao c a e => by have := h4 a ao c e; omega), h3, h4⟩,
    fun o => (f _ _).trans (h.f8 o), (h.web.setOther n8).setOther n8, (heap_set_ne hL.1).trans ((heap_set_ne hL.1).trans h.rec_), (heap_set_ne hL.2).trans ((heap_set_ne hL.2).trans h.def_), fun r h' => by have := h.lt r h'; simpa [World.setCell] using this, by have := h.sz; simpa [World.setCell] using this, h.st1⟩

theorem Wk.low {B : Nat} {T : Nat → Prop} {X : World} {k o : Nat} (hk : k < B) (u : Value) : Wk B T X (X.setCell ⟨k, o, none⟩ u) := ⟨by simp [World.setCell], fun j hj _ _ => heap_set_ne (by omega)⟩
theorem Wk.put {B : Nat} {T : Nat → Prop} {X : World} {k : Nat} (hk : k < B) (o : Obj) : Wk B T X (X.putObj k o) := ⟨by simp, fun j hj _ _ => World.putObj_heap_other (by omega)⟩
theorem Wk.then {B : Nat} {X Y Z : World} (h : Wk B (fun _ => False) X Y) (k : Wk B (fun _ => False) Y Z) : Wk B (fun _ => False) X Z := h.trans k (fun _ h => .inl h)
theorem Wk.ints {B : Nat} {X Y : World} (h : Wk B (fun _ => False) X Y) {g : Nat} {l : List Int} (hi : Ints X (some ⟨g, 0, none⟩) l) (hg : B ≤ g) : Ints Y (some ⟨g, 0, none⟩) l := fun i hi' => by
  obtain ⟨b, off, e, hc⟩ := hi i hi'
  simp only [Option.some.injEq, Addr.mk.injEq] at e
  obtain ⟨rfl, rfl, -⟩ := e
  exact ⟨g, 0, rfl, h.cell hc hg id⟩
theorem OwnI.lstT {T : Nat → Prop} {X : World} {base : Nat} {v : Value} {l : List Int} (h : OwnI X base v l) (ht : ∀ r, T r → r < base) : LstT T X v l ∧ ∀ a n c, v = .slice (some a) n c → base ≤ a.block := by
  obtain ⟨ao, c, hv, _, hi⟩ := h.slice
  have key : ∀ a n c, v = .slice (some a) n c → base ≤ a.block ∧ a.block < X.heap.size := fun a n c e => by
    rcases h.2 with ⟨e2, _⟩ | ⟨g, cap, cur, e2, hb, hgg, _⟩
    · rw [e2] at e; cases e
    · rw [e2] at e
      simp only [Value.slice.injEq, Option.some.injEq] at e
      obtain ⟨rfl, -, -⟩ := e
      exact ⟨hb, (Array.getElem?_eq_some_iff.1 hgg).1⟩
  exact ⟨⟨ao, c, hv, hi, fun a e => by
    subst e
    have := key a _ _ hv
    exact ⟨fun h' => by have := ht _ h'; omega, this.2⟩⟩, fun a n c e => (key a n c e).1⟩
theorem Arr.lstT {T : Nat → Prop} {X : World} {g : Nat} {l : List Int} (h : Arr X g l) (ht : ¬ T g) {n : Nat} (hn : l.length = n) : LstT T X (.slice (some ⟨g, 0, none⟩) n n) l := ⟨some ⟨g, 0, none⟩, n, by rw [hn], h.ints, fun a e => by cases e; exact ⟨ht, h.lt⟩⟩

theorem results_cell_tmp {P : Program} {fn : Func} {t u : Tmp} {ty : TypeId} (h : fn.results = #[.cell t ty, .tmp u]) (tmps : Array Value) (w : World) (a : Addr) (ha : tmps.getD t undef = .pointer (some a)) (v : Value) (hl : (loadVar ty a).run P w = .ok v w) :
    (results fn tmps).run P w = .ok (.tuple #[v, tmps.getD u undef]) w := by
  rw [Array.getD_eq_getD_getElem?] at ha
  simp [results, h, asAddr, ha, hl]
theorem load33 {w : World} {k : Nat} {v1 v2 : Value} (h0 : w.cell? ⟨k, 0, none⟩ = some v1) (h1 : w.cell? ⟨k, 1, none⟩ = some v2) : (loadVar 33 ⟨k, 0, none⟩).run Try.prog w = .ok (.agg #[v1, v2]) w := by
  simp [go_sem, h0, h1]
theorem last_eq {x : Int} {n : Nat} (hn : 0 < n) (h : (x == ((n - 1 : Nat) : Int)) = true) : x = (n : Int) - 1 := by
  have h2 : x = ((n - 1 : Nat) : Int) := by simpa using h
  omega

/-- A slice of the list l. -/
def Lst (X : World) (v : Value) (l : List Int) : Prop := ∃ ao c, v = .slice ao l.length c ∧ Ints X ao l
def WaitPost (ok : List Int → List Int → Prop) (w : World) (e : Ending) (w' : World) : Prop :=
  ∃ v1 v2 o1 d1, e = .returned (.tuple #[.agg #[v1, v2], .int .i64 0]) ∧ ok o1 d1 ∧ Lst w' v1 o1 ∧ Lst w' v2 d1 ∧ Kept w w'

theorem LstT.lst {T : Nat → Prop} {X : World} {v : Value} {l : List Int} (h : LstT T X v l) : Lst X v l := let ⟨ao, c, hv, hi, _⟩ := h; ⟨ao, c, hv, hi⟩
theorem wait_fin {w : World} {B b D L t3 t4 t6 t8 t9 : Nat} {W : Web} {dry : Int} {rc : Obj} {T : Nat → Prop} {st : Int × List Int × List Int} {Z : World} (hb : JB w B b D L t3 t4 t6 t8 t9) (hne : t4 ≠ D) (h : JW w B b D L t3 t4 t6 t8 t9 W dry rc T st Z) {v1 v2 : Value}
    (h1 : LstT T Z v1 st.2.1) (h2 : LstT T Z v2 st.2.2) (h3 : ∀ a n c, v1 = .slice (some a) n c → B ≤ a.block) (h4 : ∀ a n c, v2 = .slice (some a) n c → B ≤ a.block) :
    ((Z.setCell ⟨t4, 0, none⟩ v1).setCell ⟨t4, 1, none⟩ v2).heap[D]? = some (.deferred (some [])) ∧
    (((Z.setCell ⟨t4, 0, none⟩ v1).setCell ⟨t4, 1, none⟩ v2).putObj D (.deferred none)).cell? ⟨t4, 0, none⟩ = some v1 ∧
    (((Z.setCell ⟨t4, 0, none⟩ v1).setCell ⟨t4, 1, none⟩ v2).putObj D (.deferred none)).cell? ⟨t4, 1, none⟩ = some v2 ∧
    Lst (((Z.setCell ⟨t4, 0, none⟩ v1).setCell ⟨t4, 1, none⟩ v2).putObj D (.deferred none)) v1 st.2.1 ∧ Lst (((Z.setCell ⟨t4, 0, none⟩ v1).setCell ⟨t4, 1, none⟩ v2).putObj D (.deferred none)) v2 st.2.2 ∧
    Kept w (((Z.setCell ⟨t4, 0, none⟩ v1).setCell ⟨t4, 1, none⟩ v2).putObj D (.deferred none)) := by
  obtain ⟨b3, b4, b6, b8, b9, bD, bL, bb⟩ := hb.hi
  obtain ⟨⟨u0, g0⟩, ⟨u1, g1⟩, gf⟩ := h.c4
  have hgp := grownBy_putObj' ((Z.setCell ⟨t4, 0, none⟩ v1).setCell ⟨t4, 1, none⟩ v2) D (.deferred none)
  have hn4 : some t4 ≠ some D := fun e => hne (Option.some.inj e)
  have key : ∀ {v : Value} {l : List Int}, LstT T Z v l → (∀ a n c, v = .slice (some a) n c → B ≤ a.block) → Lst (((Z.setCell ⟨t4, 0, none⟩ v1).setCell ⟨t4, 1, none⟩ v2).putObj D (.deferred none)) v l := fun hl hB =>
    ((((hl.set (k := t4) (o := 0) v1 (fun ao c a e => by have := hB a ao c e; omega)).set (k := t4) (o := 1) v2 (fun ao c a e => by have := hB a ao c e; omega)).map (Y := (((Z.setCell ⟨t4, 0, none⟩ v1).setCell ⟨t4, 1, none⟩ v2).putObj D (.deferred none))) (fun b' o u hc hbk => by
      obtain ⟨ao, c, hv, hi, ha⟩ := hl
      cases ao with
      | none => exact hgp.cell hc (fun e => by
          have e := Option.some.inj e
          subst e
          obtain ⟨o', ho', hc'⟩ := cells_of_cell hc
          have h9 : ((Z.setCell ⟨t4, 0, none⟩ v1).setCell ⟨t4, 1, none⟩ v2).heap[b']? = some (.deferred (some [])) := heap_set_deferred (heap_set_deferred h.def_ _ _) _ _
          simp only at ho'
          rw [h9] at ho'
          cases ho'
          cases hc')
      | some a => exact hgp.cell hc (fun e => by
          have e : b' = D := Option.some.inj e
          have h1 := hbk a _ _ hv
          have h2 := hB a _ _ hv
          omega)) hgp.size)).lst
  exact ⟨heap_set_deferred (heap_set_deferred h.def_ _ _) _ _, hgp.cell (cell_set_off (cell_set_same g0) (by omega)) hn4, hgp.cell (cell_set_same (cell_set_off g1 (by omega))) hn4, key h1 h3, key h2 h4,
    ((h.kept.setCell (p := ⟨t4, 0, none⟩) hb.lo.2.1 _).setCell (p := ⟨t4, 1, none⟩) hb.lo.2.1 _).grown hgp (fun r e => by cases e; exact hb.lo.2.2.2.2.2.1)⟩

set_option maxHeartbeats 3000000 in
theorem Wait_ok (o : Prob) (ao bo : Option Addr) (ca cb : Nat) (dry : Int) (w : World) (ho : IsProb w o ao bo) (h : errS o = 0) (hdry : 0 ≤ dry ∧ dry ≤ 30) (hn8 : (webOf o).n ≤ 8) (hn0 : 0 < (webOf o).n) :
    Calls Try.prog 28 #[probV o ao ca bo cb, .int .i64 dry] w (WaitPost (fun o1 d1 => ∃ q, q <+: ordersL (webOf o) ∧ (waitAll (webOf o) dry q).2 = (o1, d1) ∧ (q = ordersL (webOf o) ∨ (waitAll (webOf o) dry q).1 = (webOf o).n - 1)) w) := by
  have HO := Lib.hid ho
  obtain ⟨h1, h2⟩ := errS_ok h
  have H1 := Lib.hid h1
  have H2 := Lib.hid h2
  clear ho h h1 h2
  have hdb : (decide (0 ≤ dry) && decide (dry ≤ 30)) = true := by simp; omega
  have HDB := Lib.hid hdb
  clear hdb
  refine calls_of_wp_marks Try.func28 rfl ?_
  simp only [Try.ntmps28, List.size_toArray, List.length_cons, List.length_nil, Nat.reduceAdd, Nat.reduceSub, Array.replicate_succ, Array.replicate_zero, List.push_toArray, List.append_toArray, List.nil_append, List.cons_append]
  go_wp2_with fail
  obtain ⟨w0, e0, hk0, hb0, hs0⟩ := alloc_prob w o.N o.arcs o.near ao ca bo cb
  rw [e0, hs0]
  clear e0
  have hc3 : ((w0.alloc (.cells #[.int .i64 dry] 3)).alloc (.cells #[.slice none 0 0, .slice none 0 0] 33)).cell? ⟨w0.heap.size, 0, none⟩ = some (.int .i64 dry) := by simp [go_sem]
  have hc40 : ((w0.alloc (.cells #[.int .i64 dry] 3)).alloc (.cells #[.slice none 0 0, .slice none 0 0] 33)).cell? ⟨w0.heap.size + 1, 0, none⟩ = some (.slice none 0 0) := by simp [go_sem]
  have hc41 : ((w0.alloc (.cells #[.int .i64 dry] 3)).alloc (.cells #[.slice none 0 0, .slice none 0 0] 33)).cell? ⟨w0.heap.size + 1, 1, none⟩ = some (.slice none 0 0) := by simp [go_sem]
  have hf4 : ∀ o, ((w0.alloc (.cells #[.int .i64 dry] 3)).alloc (.cells #[.slice none 0 0, .slice none 0 0] 33)).frozen? ⟨w0.heap.size + 1, o, none⟩ = false := fun o => by simp [go_sem]
  have hz2 : ((w0.alloc (.cells #[.int .i64 dry] 3)).alloc (.cells #[.slice none 0 0, .slice none 0 0] 33)).heap.size = w0.heap.size + 2 := by simp
  have hk2 : Kept w ((w0.alloc (.cells #[.int .i64 dry] 3)).alloc (.cells #[.slice none 0 0, .slice none 0 0] 33)) := (hk0.alloc _).alloc _
  generalize ((w0.alloc (.cells #[.int .i64 dry] 3)).alloc (.cells #[.slice none 0 0, .slice none 0 0] 33)) = w2 at *
  obtain ⟨t3, ht3⟩ : ∃ t3, w0.heap.size = t3 := ⟨_, rfl⟩
  rw [ht3] at hc3 hc40 hc41 hf4 hz2 hs0 ⊢
  have HK2 := Lib.hid hk2
  have HC3 := Lib.hid hc3
  have HC40 := Lib.hid hc40
  have HC41 := Lib.hid hc41
  have HF4 := Lib.hid hf4
  have HZ2 := Lib.hid hz2
  have HS0 := Lib.hid hs0
  clear hk0 hb0 hs0 hc40 hc41 hf4 hz2 hk2 hc3 ht3 w0
  refine (open_ok o ao bo ca cb w2 (HO.out.kept HK2.out) H1.out).mono ?_
  rintro e w3 ⟨b, rfl, hw3, hk3⟩
  generalize hWW : webOf o = W at *
  have HWE := Lib.hid hWW
  clear hWW
  have HW3 := Lib.hid hw3
  have HK3 := Lib.hid hk3
  have q1 := hk3.cell HC3.out
  have q2 := hw3.n
  have l1 := lt_of_cell q1
  have l2 := lt_of_cell q2
  have hgt : decide ((W.n : Int) > 8) = false := decide_eq_false (by omega)
  have hnz : ((W.n : Int) == 0) = false := by simp; omega
  clear hw3 hk3
  go_wp2_with fail
  refine (isDry_any dry _).mono ?_
  rintro e w4 ⟨rfl, rfl⟩
  rw [HDB.out]
  go_wp2_with fail
  refine (circular_any b W _ (HW3.out.kept ((Kept.refl w3).alloc _)) (by omega)).mono ?_
  rintro e w4 ⟨rfl, rfl⟩
  rw [H2.out]
  go_wp2_with fail
  obtain ⟨t6, ht6⟩ : ∃ t6, w3.heap.size = t6 := ⟨_, rfl⟩
  have hk4 : Kept w3 (((w3.alloc (.cells #[.pointer (some ⟨b, 0, none⟩)] 88)).alloc (.cells #[.slice none 0 0, .slice none 0 0] 33)).alloc (.cells #[.int .i64 2000] 3)) := (((Kept.refl w3).alloc _).alloc _).alloc _
  have h46 : (((w3.alloc (.cells #[.pointer (some ⟨b, 0, none⟩)] 88)).alloc (.cells #[.slice none 0 0, .slice none 0 0] 33)).alloc (.cells #[.int .i64 2000] 3)).cell? ⟨w3.heap.size, 0, none⟩ = some (.pointer (some ⟨b, 0, none⟩)) := by simp [go_sem]
  have h480 : (((w3.alloc (.cells #[.pointer (some ⟨b, 0, none⟩)] 88)).alloc (.cells #[.slice none 0 0, .slice none 0 0] 33)).alloc (.cells #[.int .i64 2000] 3)).cell? ⟨w3.heap.size + 1, 0, none⟩ = some (.slice none 0 0) := by simp [go_sem]
  have h481 : (((w3.alloc (.cells #[.pointer (some ⟨b, 0, none⟩)] 88)).alloc (.cells #[.slice none 0 0, .slice none 0 0] 33)).alloc (.cells #[.int .i64 2000] 3)).cell? ⟨w3.heap.size + 1, 1, none⟩ = some (.slice none 0 0) := by simp [go_sem]
  have hf8 : ∀ o, (((w3.alloc (.cells #[.pointer (some ⟨b, 0, none⟩)] 88)).alloc (.cells #[.slice none 0 0, .slice none 0 0] 33)).alloc (.cells #[.int .i64 2000] 3)).frozen? ⟨w3.heap.size + 1, o, none⟩ = false := fun o => by simp [go_sem]
  have h49 : (((w3.alloc (.cells #[.pointer (some ⟨b, 0, none⟩)] 88)).alloc (.cells #[.slice none 0 0, .slice none 0 0] 33)).alloc (.cells #[.int .i64 2000] 3)).cell? ⟨w3.heap.size + 2, 0, none⟩ = some (.int .i64 2000) := by simp [go_sem]
  have hf9 : (((w3.alloc (.cells #[.pointer (some ⟨b, 0, none⟩)] 88)).alloc (.cells #[.slice none 0 0, .slice none 0 0] 33)).alloc (.cells #[.int .i64 2000] 3)).frozen? ⟨w3.heap.size + 2, 0, none⟩ = false := by simp [go_sem]
  have hz4 : (((w3.alloc (.cells #[.pointer (some ⟨b, 0, none⟩)] 88)).alloc (.cells #[.slice none 0 0, .slice none 0 0] 33)).alloc (.cells #[.int .i64 2000] 3)).heap.size = w3.heap.size + 3 := by simp
  generalize (((w3.alloc (.cells #[.pointer (some ⟨b, 0, none⟩)] 88)).alloc (.cells #[.slice none 0 0, .slice none 0 0] 33)).alloc (.cells #[.int .i64 2000] 3)) = w4 at *
  have hsz3 := HK3.out.size
  rw [HZ2.out] at hsz3
  have hs0 := HS0.out
  rw [ht6] at h46 h480 h481 hf8 h49 hf9 hz4 l1 l2 hsz3 ⊢
  have HT36 : Hid (t3 + 2 ≤ t6) := hsz3
  have HBB : Hid (JB w (t6 + 5) b (t6 + 3) (t6 + 4) t3 (t3 + 1) t6 (t6 + 1) (t6 + 2)) := ⟨by omega, by omega, by omega⟩
  have HKW : Hid (Kept w w4) := (HK2.out.trans HK3.out).trans hk4
  have HJ0 : Hid (∀ rc : Obj, JW w (t6 + 5) b (t6 + 3) (t6 + 4) t3 (t3 + 1) t6 (t6 + 1) (t6 + 2) W dry rc (fun _ => False) (waitAll W dry []) ((w4.alloc (.deferred (some []))).alloc rc)) := by
    intro rc
    have hk5 : Kept w4 ((w4.alloc (.deferred (some []))).alloc rc) := ((Kept.refl w4).alloc _).alloc _
    have hk35 := hk4.trans hk5
    have hk25 := HK3.out.trans hk35
    have hL : ((w4.alloc (.deferred (some []))).alloc rc).heap[t6 + 4]? = some rc := by
      have := World.alloc_heap_new (w4.alloc (.deferred (some []))) rc
      rwa [World.size_alloc, hz4] at this
    have hD : ((w4.alloc (.deferred (some []))).alloc rc).heap[t6 + 3]? = some (.deferred (some [])) := by
      have := World.alloc_heap_new w4 (.deferred (some []))
      rw [hz4] at this
      exact (Below.heap_alloc _ _ _ (by simp; omega)).trans this
    exact ⟨HKW.out.trans hk5, hk25.cell HC3.out, hk5.cell h46, hk5.cell h49, (hk5.cells.2 _ 0 (lt_of_cell h49)).trans hf9, ⟨⟨_, hk25.cell HC40.out⟩, ⟨_, hk25.cell HC41.out⟩, fun o => (hk25.cells.2 _ o (lt_of_cell HC40.out)).trans (HF4.out o)⟩,
      ⟨_, _, hk5.cell h480, hk5.cell h481, LstT.nil _ _, LstT.nil _ _, fun a n c e => (by cases e), fun a n c e => (by cases e)⟩, fun o => (hk5.cells.2 _ o (lt_of_cell h480)).trans (hf8 o), HW3.out.kept hk35, hL, hD, fun r h => h.elim, by simp [hz4], by show -1 ≤ (2000 : Int) ∧ (2000 : Int) ≤ 30000; omega⟩
  have HN8 := Lib.hid hn8
  have HN0 := Lib.hid hn0
  have HZ4 := Lib.hid hz4
  clear q1 q2 l1 l2 hk4 h46 h480 h481 hf8 h49 hf9 hs0 hsz3 ht6 hgt hnz HK2 HC3 HC40 HC41 HF4 HZ2 HS0 HW3 HK3
  refine range_wide rfl Try.call87 ?_
  intro fn rc hrc
  rw [hz4]
  have HRC := Lib.hid hrc
  have host : Host (t6 + 5) b (t6 + 4) W (fun T pre X => JW w (t6 + 5) b (t6 + 3) (t6 + 4) t3 (t3 + 1) t6 (t6 + 1) (t6 + 2) W dry (.loop (rc .ready none)) T (waitAll W dry pre) X)
      (fun T pre X => JW w (t6 + 5) b (t6 + 3) (t6 + 4) t3 (t3 + 1) t6 (t6 + 1) (t6 + 2) W dry (.loop (rc .done (some (.exit 1)))) T (waitAll W dry pre) X ∧ (waitAll W dry pre).1 = W.n - 1) := by
    refine ⟨fun hj hg hr ht => hj.turn HBB.out hg hr ht, fun hj hg hr ht => ⟨hj.1.turn HBB.out hg hr ht, hj.2⟩, fun hj => hj.web, ?_⟩
    intro T pre l g c X hj ht hints hl hc hin hnd
    refine YieldAt.mono (round_yield (m := 8) (args := #[.slice (some ⟨g, 0, none⟩) l.length c]) rfl rc hrc hj.rec_ ?a1
      (fun Y => JW w (t6 + 5) b (t6 + 3) (t6 + 4) t3 (t3 + 1) t6 (t6 + 1) (t6 + 2) W dry (.loop (rc .ready none)) T (waitAll W dry (pre ++ [l])) Y ∧ Wk (t6 + 5) (fun _ => False) X Y)
      (fun cd Y => cd = .exit 1 ∧ (JW w (t6 + 5) b (t6 + 3) (t6 + 4) t3 (t3 + 1) t6 (t6 + 1) (t6 + 2) W dry (.loop (rc .done (some (.exit 1)))) T (waitAll W dry (pre ++ [l])) Y ∧ (waitAll W dry (pre ++ [l])).1 = W.n - 1) ∧ Wk (t6 + 5) (fun _ => False) X Y) ?assign ?body) ?fin
    case fin =>
      rintro e Y (⟨rfl, h1, h2⟩ | ⟨rfl, cd, -, h1, h2⟩)
      · exact .inl ⟨rfl, h1, h2⟩
      · exact .inr ⟨rfl, h1, h2⟩
    case assign =>
      intro K hK
      gi_wp2
      exact hK
    case body =>
      have hjb := hj.put HBB.out (.loop (rc .busy none))
      have hw0 : Wk (t6 + 5) (fun _ => False) X (X.putObj (t6 + 4) (.loop (rc .busy none))) := Wk.put (by omega) _
      have hgB := (hj.lt g ht).1
      have hi0 := hw0.ints hints hgB
      have hs0 : X.heap.size = (X.putObj (t6 + 4) (.loop (rc .busy none))).heap.size := by simp
      have HS0 := Lib.hid hs0
      have HTL : Hid (∀ r, T r → r < X.heap.size) := fun r h => (hj.lt r h).2
      generalize (X.putObj (t6 + 4) (.loop (rc .busy none))) = X0 at *
      have HJB := Lib.hid hjb
      have HW0 := Lib.hid hw0
      have HI0 := Lib.hid hi0
      have HGB := Lib.hid hgB
      have HLN := Lib.hid hl
      have HIN := Lib.hid hin
      have q3 := hjb.c3
      have q6 := hjb.c6
      have hdd := days_any b W dry l (some ⟨g, 0, none⟩) c X0 hjb.web (by omega) hi0 (by omega) hc hin hdry.1 hdry.2
      obtain ⟨p, hp1, hpn, hp2⟩ := getD_nat (W := W) hin (show W.n - 1 < l.length by omega)
      obtain ⟨b', o', e', hcl⟩ := hi0 (W.n - 1) (by omega)
      simp only [Option.some.injEq, Addr.mk.injEq] at e'
      obtain ⟨rfl, rfl, -⟩ := e'
      rw [hp2, Nat.zero_add] at hcl
      have HEND : Hid (endOf W dry l = (daysOf W dry l).getD p 0) := by
        show _ = _
        unfold endOf
        rw [hl, hp1, Int.toNat_natCast]
      have hrow := daysOf_row (W := W) (dry := dry) hdry (l := l) (by omega)
      rw [hl] at hdd hc
      have HDD := Lib.hid hdd
      have HROW := Lib.hid hrow
      have HCC := Lib.hid hc
      have hmc : ((W.n - 1 : Nat) : Int) < W.n := by omega
      have hmc2 : W.n - 1 < W.n := by omega
      have hpw : (p : Int) < W.n := by omega
      have hnw : IntKind.i64.wrap ((W.n : Int) - 1) = ((W.n - 1 : Nat) : Int) := by rw [IntWalk.i64_in _ (by omega)]; omega
      have HST : Hid (waitAll W dry (pre ++ [l]) = waitStep W dry (waitAll W dry pre) l) := waitAll_snoc _ _ _ _
      generalize waitAll W dry (pre ++ [l]) = st2 at *
      generalize waitAll W dry pre = st at *
      have HCL := Lib.hid hcl
      clear hjb hw0 hi0 hgB hs0 hl hin hdd hrow hp1 hp2 hj hints hnd hrc HRC ht hz4 hcl hc
      gi_wp2_with fail
      refine ⟨trivial, (CallsIn.inRound (t6 + 4) (callsIn_wide.2 HDD.out)).mono ?_⟩
      rintro e X1 ⟨g2, rfl, hg2, harr, hk1⟩
      have hJ1 := HJB.out.turn (T' := T) HBB.out (grownBy_kept (World.grownBy.refl X0 none) hk1) (fun r e => by cases e) (fun r h => .inl h)
      have HJ1 := Lib.hid hJ1
      have HA1 := Lib.hid harr
      have HW1 := Lib.hid (HW0.out.then (Wk.of_kept hk1))
      have HI1 := Lib.hid (HI0.out.kept hk1)
      have HG2 : Hid (X.heap.size ≤ g2) := by have := HS0.out; show _ ≤ _; omega
      have hcl := hk1.cell HCL.out
      have hpd : p < (daysOf W dry l).length := by rw [HROW.out.1]; exact hpn
      have hdc := harr.get p hpd
      have hdd : (daysOf W dry l).getD p 0 = (daysOf W dry l)[p] := by rw [List.getD_eq_getElem?_getD, List.getElem?_eq_getElem hpd]; rfl
      have hdb := HROW.out.getD (by omega) p
      rw [hdd] at hdb
      generalize (daysOf W dry l)[p] = dp at hdc hdd hdb
      have HDP : Hid (endOf W dry l = dp) := HEND.out.trans hdd
      have c9 := hJ1.c9
      have f9 := hJ1.f9
      have lt9 := lt_of_cell c9
      have c6 := hJ1.c6
      have cn := hJ1.web.n
      clear hg2 harr hk1 hJ1 hpd hdd q3 q6 HDD HCL
      by_cases hlt : dp < st.1
      · have HS2 : Hid (st2 = (dp, l, daysOf W dry l)) := by
          show _ = _
          rw [HST.out]
          unfold waitStep
          rw [HDP.out, if_pos hlt]
        have HJ2 := Lib.hid (HJ1.out.set9 HBB.out ⟨by omega, by omega⟩ dp (by omega))
        have HW2 := Lib.hid (HW1.out.then (Wk.low (k := t6 + 2) (o := 0) (by omega) (.int .i64 dp)))
        have HI2 := Lib.hid ((Wk.low (B := t6 + 5) (T := fun _ => False) (X := X1) (k := t6 + 2) (o := 0) (by omega) (.int .i64 dp)).ints HI1.out HGB.out)
        have HA2 := Lib.hid (HA1.out.setOther (b := t6 + 2) (o := 0) (u := .int .i64 dp) (by have := HG2.out; have := HTL.out; have := HJ1.out.sz; have h8 := HJB.out.sz; have h7 := HS0.out; omega))
        gi_wp2_with fail
        have hcc := clone_any l g 0 c _ HI2.out (by rw [HLN.out]; omega)
        rw [HLN.out] at hcc
        refine ⟨trivial, (CallsIn.inRound (t6 + 4) (callsIn_wide.2 hcc)).mono ?_⟩
        clear hcc
        rintro e X3 ⟨vc, rfl, hown, hk3⟩
        obtain ⟨ao', c', hvc, -, -⟩ := hown.slice
        have hX1 : X.heap.size ≤ (X1.setCell ⟨t6 + 2, 0, none⟩ (.int .i64 dp)).heap.size := HW2.out.size
        obtain ⟨hl1, hl2⟩ := hown.lstT (T := T) (fun r h => Nat.lt_of_lt_of_le (HTL.out r h) hX1)
        subst hvc
        have hJ3 := HJ2.out.turn (T' := T) HBB.out (grownBy_kept (World.grownBy.refl _ none) hk3) (fun r e => by cases e) (fun r h => .inl h)
        have hnT : ¬ T g2 := fun h => by have := HTL.out g2 h; have := HG2.out; omega
        have hA3 := (HA2.out.kept hk3).lstT (T := T) hnT HROW.out.1
        have hJ4 := hJ3.set8 HBB.out ⟨by omega, by omega⟩ hl1 hA3 (fun a n c e => Nat.le_trans (Nat.le_trans HJ2.out.sz (Nat.le_refl _)) (hl2 a n c e)) (fun a n c e => by cases e; have := HG2.out; have := HJB.out.sz; have := HS0.out; simp only; omega)
        have HJ4 := Lib.hid hJ4
        have HW4 := Lib.hid (((HW2.out.then (Wk.of_kept hk3)).then (Wk.low (k := t6 + 1) (o := 0) (by omega) (.slice ao' l.length c'))).then (Wk.low (k := t6 + 1) (o := 1) (by omega) (.slice (some ⟨g2, 0, none⟩) W.n W.n)))
        obtain ⟨u1, u2, e80, e81, -⟩ := hJ3.c8
        have f80 := hJ3.f8 0
        have f81 := hJ3.f8 1
        have l8 := lt_of_cell e80
        have k9 := hJ4.c9
        have k6 := hJ4.c6
        have kn := hJ4.web.n
        clear hown hk3 hl1 hl2 hJ3 hA3 hJ4 c9 f9 lt9 c6 cn hcl hdc hX1
        gi_wp2_with fail
        have HJ5 := Lib.hid (HJ4.out.turn (T' := T) HBB.out (grownBy_kept (World.grownBy.refl _ none) (Kept.refl _).drew) (fun r e => by cases e) (fun r h => .inl h))
        have HW5 := Lib.hid (HW4.out.then (Wk.of_kept (Kept.refl _).drew))
        refine regionIn_tail 6 (by kernel_rfl) (by kernel_rfl) (by kernel_rfl) ?_
        simp only [List.take_succ_cons, List.take_zero, List.drop_succ_cons, List.drop_zero]
        iterate 6 still_step
        refine wpStill_nil ?_
        cases he : (dp == ((W.n - 1 : Nat) : Int))
        · go_wp2
          unfold onlyN
          gi_wp2
          refine ⟨HJ5.out.rec_, ?_, HW5.out.then (Wk.put (by omega) _)⟩
          rw [HS2.out]
          exact HJ5.out.put HBB.out _
        · have he' := last_eq HN0.out he
          have HE := Lib.hid he'
          clear he'
          go_wp2
          unfold onlyN
          gi_wp2
          refine ⟨HJ5.out.rec_, rfl, ⟨?_, ?_⟩, HW5.out.then (Wk.put (by omega) _)⟩
          · rw [HS2.out]
            exact HJ5.out.put HBB.out _
          · rw [HS2.out]
            exact HE.out
      · have HS2 : Hid (st2 = st) := by
          show _ = _
          rw [HST.out]
          unfold waitStep
          rw [HDP.out, if_neg hlt]
        gi_wp2_with fail
        have HJ5 := Lib.hid (HJ1.out.turn (T' := T) HBB.out (grownBy_kept (World.grownBy.refl _ none) (Kept.refl _).drew) (fun r e => by cases e) (fun r h => .inl h))
        have HW5 := Lib.hid (HW1.out.then (Wk.of_kept (Kept.refl _).drew))
        refine regionIn_tail 6 (by kernel_rfl) (by kernel_rfl) (by kernel_rfl) ?_
        simp only [List.take_succ_cons, List.take_zero, List.drop_succ_cons, List.drop_zero]
        iterate 6 still_step
        refine wpStill_nil ?_
        cases he : (st.1 == ((W.n - 1 : Nat) : Int))
        · go_wp2
          unfold onlyN
          gi_wp2
          refine ⟨HJ5.out.rec_, ?_, HW5.out.then (Wk.put (by omega) _)⟩
          rw [HS2.out]
          exact HJ5.out.put HBB.out _
        · have he' := last_eq HN0.out he
          have HE := Lib.hid he'
          clear he'
          go_wp2
          unfold onlyN
          gi_wp2
          refine ⟨HJ5.out.rec_, rfl, ⟨?_, ?_⟩, HW5.out.then (Wk.put (by omega) _)⟩
          · rw [HS2.out]
            exact HJ5.out.put HBB.out _
          · rw [HS2.out]
            exact HE.out
  refine (orders_any (t6 + 5) b (t6 + 4) W (by omega) hn0 _ _ host _ (by simp [hz4]) (HJ0.out _)).mono ?_
  clear host hrc
  rintro e Y ⟨hv, (⟨T, hj⟩ | ⟨T, q, hq, hj, hlast⟩)⟩
  · refine ⟨hv, .inl ⟨hj.rec_, ?_⟩⟩
    have hjp := hj.put HBB.out (.loop (rc .exhausted none))
    generalize (Y.putObj (t6 + 4) (.loop (rc .exhausted none))) = Z at *
    have HJP := Lib.hid hjp
    obtain ⟨v1, v2, e0, e1, hl1, hl2, hB1, hB2⟩ := hjp.c8
    have HF := Lib.hid (wait_fin HBB.out (by have := HBB.out.hi; have := HT36.out; omega) hjp hl1 hl2 hB1 hB2)
    obtain ⟨⟨u0, g0⟩, ⟨u1, g1⟩, gf⟩ := hjp.c4
    have gf0 := gf 0
    have gf1 := gf 1
    have lz := lt_of_cell g0
    obtain ⟨a1, n1, rfl, -, -⟩ := hl1
    obtain ⟨a2, n2, rfl, -, -⟩ := hl2
    clear hjp gf HRC hj hv hz4 hB1 hB2
    go_wp2
    obtain ⟨f1, f2, f3, f4, f5, f6⟩ := HF.out
    refine ⟨by simp, .inl ⟨t6 + 3, _, rfl, run_takeDeferred f1, ?_⟩⟩
    exact ⟨_, results_cell_tmp rfl _ _ ⟨t3 + 1, 0, none⟩ rfl _ (load33 f2 f3), _, _, _, _, rfl, by rw [HWE.out]; exact ⟨ordersL W, List.prefix_refl _, rfl, .inl rfl⟩, f4, f5, f6⟩
  · refine ⟨hv, .inr ⟨.exit 1, hj.rec_, ?_⟩⟩
    have HQ := Lib.hid hq
    have HLAST := Lib.hid hlast
    clear hq hlast
    have hjp := hj.put HBB.out (.loop (rc .exhausted (some (.exit 1))))
    generalize (Y.putObj (t6 + 4) (.loop (rc .exhausted (some (.exit 1))))) = Z at *
    have HJP := Lib.hid hjp
    obtain ⟨v1, v2, e0, e1, hl1, hl2, hB1, hB2⟩ := hjp.c8
    have HF := Lib.hid (wait_fin HBB.out (by have := HBB.out.hi; have := HT36.out; omega) hjp hl1 hl2 hB1 hB2)
    obtain ⟨⟨u0, g0⟩, ⟨u1, g1⟩, gf⟩ := hjp.c4
    have gf0 := gf 0
    have gf1 := gf 1
    have lz := lt_of_cell g0
    obtain ⟨a1, n1, rfl, -, -⟩ := hl1
    obtain ⟨a2, n2, rfl, -, -⟩ := hl2
    clear hjp gf HRC hj hv hz4 hB1 hB2
    go_wp2
    obtain ⟨f1, f2, f3, f4, f5, f6⟩ := HF.out
    refine ⟨by simp, .inl ⟨t6 + 3, _, rfl, run_takeDeferred f1, ?_⟩⟩
    exact ⟨_, results_cell_tmp rfl _ _ ⟨t3 + 1, 0, none⟩ rfl _ (load33 f2 f3), _, _, _, _, rfl, by rw [HWE.out]; exact ⟨q, HQ.out, rfl, .inr HLAST.out⟩, f4, f5, f6⟩
end Go.Proofs.Yteljjkghjbofnaa
