/- Wait. -/
import Derived.Test.YteljjkghjbofnaaXd
import Derived.Test.YteljjkghjbofnaaPb
import Derived.Test.YteljjkghjbofnaaPd
set_option maxRecDepth 100000
namespace Go.Proofs.Yteljjkghjbofnaa
open Go Go.Proofs Go.RowKit
attribute [local go_sem] Oper.semAt_some

def endOf (W : Web) (dry : Int) (l : List Int) : Int := (daysOf W dry l).getD (l.getD (l.length - 1) 0).toNat 0
def waitStep (W : Web) (dry : Int) (st : Int × List Int × List Int) (l : List Int) : Int × List Int × List Int := if endOf W dry l < st.1 then (endOf W dry l, l, daysOf W dry l) else st
def waitAll (W : Web) (dry : Int) (ls : List (List Int)) : Int × List Int × List Int := ls.foldl (waitStep W dry) (2000, [], [])
theorem waitAll_snoc (W : Web) (dry : Int) (ls : List (List Int)) (l : List Int) : waitAll W dry (ls ++ [l]) = waitStep W dry (waitAll W dry ls) l := by unfold waitAll; rw [List.foldl_append]; rfl

/-- v is a slice of the list l, in a block that T does not have. -/
def LstT (T : Nat → Prop) (X : World) (v : Value) (l : List Int) : Prop := ∃ ao c, v = .slice ao l.length c ∧ Ints X ao l ∧ ∀ a, ao = some a → ¬ T a.block ∧ a.block < X.heap.size
theorem LstT.nil (T : Nat → Prop) (X : World) : LstT T X (.slice none 0 0) [] := ⟨none, 0, rfl, Ints.nil _ _, fun a h => by cases h⟩
theorem LstT.turn {B : Nat} {T T' : Nat → Prop} {X Y : World} {row : Option Nat} {v : Value} {l : List Int} (h : LstT T X v l) (hg : X.grownBy Y row) (hr : ∀ r, row = some r → T r ∨ (B ≤ r ∧ ∃ o : Obj, X.heap[r]? = some o ∧ o.isCells = false))
    (ht : ∀ r, T' r → T r ∨ (X.heap.size ≤ r ∧ r < Y.heap.size)) : LstT T' Y v l := by
  obtain ⟨ao, c, hv, hi, ha⟩ := h
  refine ⟨ao, c, hv, fun i hi' => ?_, fun a e => ⟨fun h' => (ht _ h').elim (ha a e).1 (fun h2 => by have := (ha a e).2; omega), Nat.lt_of_lt_of_le (ha a e).2 hg.size⟩⟩
  obtain ⟨b, off, e, hc⟩ := hi i hi'
  refine ⟨b, off, e, hg.cell hc (fun e2 => ?_)⟩
  rcases hr b e2.symm with h1 | ⟨_, o, ho, hoc⟩
  · exact (ha _ e).1 h1
  · obtain ⟨o', ho', hc'⟩ := cells_of_cell hc
    rw [ho] at ho'
    cases ho'
    rw [hoc] at hc'
    cases hc'
theorem LstT.kept {T : Nat → Prop} {X Y : World} {v : Value} {l : List Int} (h : LstT T X v l) (hk : Kept X Y) : LstT T Y v l := by
  obtain ⟨ao, c, hv, hi, ha⟩ := h
  exact ⟨ao, c, hv, hi.kept hk, fun a e => ⟨(ha a e).1, Nat.lt_of_lt_of_le (ha a e).2 hk.size⟩⟩
theorem LstT.set {T : Nat → Prop} {X : World} {v : Value} {l : List Int} (h : LstT T X v l) {k o : Nat} (u : Value) (hk : ∀ ao c a, v = .slice (some a) ao c → a.block ≠ k) : LstT T (X.setCell ⟨k, o, none⟩ u) v l := by
  obtain ⟨ao, c, hv, hi, ha⟩ := h
  refine ⟨ao, c, hv, fun i hi' => ?_, fun a e => ⟨(ha a e).1, by have := (ha a e).2; simpa [World.setCell] using this⟩⟩
  obtain ⟨b, off, e, hc⟩ := hi i hi'
  subst e
  exact ⟨b, off, rfl, cell_set_block hc (hk _ _ _ hv)⟩

structure JB (w : World) (B b D L t3 t4 t6 t8 t9 : Nat) : Prop where
  lo : w.heap.size ≤ t3 ∧ w.heap.size ≤ t4 ∧ w.heap.size ≤ t6 ∧ w.heap.size ≤ t8 ∧ w.heap.size ≤ t9 ∧ w.heap.size ≤ D ∧ w.heap.size ≤ L
  hi : t3 < B ∧ t4 < B ∧ t6 < B ∧ t8 < B ∧ t9 < B ∧ D < B ∧ L < B ∧ b < B
  ne : t8 ≠ t9 ∧ t3 ≠ t8 ∧ t3 ≠ t9 ∧ t6 ≠ t8 ∧ t6 ≠ t9 ∧ t4 ≠ t8 ∧ t4 ≠ t9 ∧ b ≠ t8 ∧ b ≠ t9 ∧ L ≠ D

structure JW (w : World) (B b D L t3 t4 t6 t8 t9 : Nat) (W : Web) (dry : Int) (rc : Obj) (T : Nat → Prop) (st : Int × List Int × List Int) (X : World) : Prop where
  kept : Kept w X
  c3 : X.cell? ⟨t3, 0, none⟩ = some (.int .i64 dry)
  c6 : X.cell? ⟨t6, 0, none⟩ = some (.pointer (some ⟨b, 0, none⟩))
  c9 : X.cell? ⟨t9, 0, none⟩ = some (.int .i64 st.1)
  f9 : X.frozen? ⟨t9, 0, none⟩ = false
  c4 : (∃ u, X.cell? ⟨t4, 0, none⟩ = some u) ∧ (∃ u, X.cell? ⟨t4, 1, none⟩ = some u) ∧ ∀ o, X.frozen? ⟨t4, o, none⟩ = false
  c8 : ∃ v1 v2, X.cell? ⟨t8, 0, none⟩ = some v1 ∧ X.cell? ⟨t8, 1, none⟩ = some v2 ∧ LstT T X v1 st.2.1 ∧ LstT T X v2 st.2.2 ∧ (∀ a n c, v1 = .slice (some a) n c → B ≤ a.block) ∧ (∀ a n c, v2 = .slice (some a) n c → B ≤ a.block)
  f8 : ∀ o, X.frozen? ⟨t8, o, none⟩ = false
  web : WebAt X b W
  rec_ : X.heap[L]? = some rc
  def_ : X.heap[D]? = some (.deferred (some []))
  lt : ∀ r, T r → B ≤ r ∧ r < X.heap.size
  sz : B ≤ X.heap.size
  st1 : -1 ≤ st.1 ∧ st.1 ≤ 30000

theorem frozen_same {X Y : World} {row : Option Nat} {k o : Nat} (hg : X.grownBy Y row) (hk : k < X.heap.size) (hne : some k ≠ row) {x : Bool} (h : X.frozen? ⟨k, o, none⟩ = x) : Y.frozen? ⟨k, o, none⟩ = x :=
  (World.frozen?_of_block (a := ⟨k, o, none⟩) (hg.block k hk hne)).trans h

theorem JW.turn {w : World} {B b D L t3 t4 t6 t8 t9 : Nat} {W : Web} {dry : Int} {rc : Obj} {T T' : Nat → Prop} {st : Int × List Int × List Int} {X Y : World} {row : Option Nat} (hb : JB w B b D L t3 t4 t6 t8 t9) (h : JW w B b D L t3 t4 t6 t8 t9 W dry rc T st X)
    (hg : X.grownBy Y row) (hr : ∀ r, row = some r → T r ∨ (B ≤ r ∧ ∃ o : Obj, X.heap[r]? = some o ∧ o.isCells = false)) (ht : ∀ r, T' r → T r ∨ (X.heap.size ≤ r ∧ r < Y.heap.size)) : JW w B b D L t3 t4 t6 t8 t9 W dry rc T' st Y := by
  have hB : ∀ r, row = some r → B ≤ r := fun r e => (hr r e).elim (fun h' => (h.lt r h').1) (fun h => h.1)
  have hne : ∀ k, k < B → some k ≠ row := fun k hk e => by have := hB k e.symm; omega
  obtain ⟨b3, b4, b6, b8, b9, bD, bL, bb⟩ := hb.hi
  have hs := h.sz
  refine ⟨h.kept.grown hg (fun r e => Nat.le_trans (Nat.le_trans hb.lo.1 (Nat.le_of_lt b3)) (hB r e)), hg.cell h.c3 (hne _ b3), hg.cell h.c6 (hne _ b6), hg.cell h.c9 (hne _ b9), frozen_same hg (by omega) (hne _ b9) h.f9,
    ⟨h.c4.1.imp fun u hu => hg.cell hu (hne _ b4), h.c4.2.1.imp fun u hu => hg.cell hu (hne _ b4), fun o => frozen_same hg (by omega) (hne _ b4) (h.c4.2.2 o)⟩, ?_, fun o => frozen_same hg (by omega) (hne _ b8) (h.f8 o), h.web.grownNe hg (hne _ bb),
    (hg.block L (by omega) (hne _ bL)).trans h.rec_, (hg.block D (by omega) (hne _ bD)).trans h.def_, fun r h' => (ht r h').elim (fun h2 => ⟨(h.lt r h2).1, Nat.lt_of_lt_of_le (h.lt r h2).2 hg.size⟩) (fun h2 => ⟨by omega, h2.2⟩), Nat.le_trans h.sz hg.size, h.st1⟩
  obtain ⟨v1, v2, e1, e2, e3, e4, e5, e6⟩ := h.c8
  exact ⟨v1, v2, hg.cell e1 (hne _ b8), hg.cell e2 (hne _ b8), e3.turn (B := B) hg hr ht, e4.turn (B := B) hg hr ht, e5, e6⟩

theorem LstT.map {T : Nat → Prop} {X Y : World} {v : Value} {l : List Int} (h : LstT T X v l) (hc : ∀ (b o : Nat) (u : Value), X.cell? ⟨b, o, none⟩ = some u → (∀ ao n c, v = .slice (some ao) n c → b = ao.block) → Y.cell? ⟨b, o, none⟩ = some u) (hs : X.heap.size ≤ Y.heap.size) : LstT T Y v l := by
  obtain ⟨ao, c, hv, hi, ha⟩ := h
  refine ⟨ao, c, hv, fun i hi' => ?_, fun a e => ⟨(ha a e).1, Nat.lt_of_lt_of_le (ha a e).2 hs⟩⟩
  obtain ⟨b, off, e, hcc⟩ := hi i hi'
  refine ⟨b, off, e, hc b _ _ hcc (fun a n c' e2 => ?_)⟩
  rw [hv, e] at e2
  simp only [Value.slice.injEq, Option.some.injEq] at e2
  rw [← e2.1]
theorem JW.put {w : World} {B b D L t3 t4 t6 t8 t9 : Nat} {W : Web} {dry : Int} {r : Loop} {T : Nat → Prop} {st : Int × List Int × List Int} {X : World} (hb : JB w B b D L t3 t4 t6 t8 t9) (h : JW w B b D L t3 t4 t6 t8 t9 W dry (.loop r) T st X) (o : Obj) :
    JW w B b D L t3 t4 t6 t8 t9 W dry o T st (X.putObj L o) := by
  have hg := grownBy_putObj' X L o
  have hne : ∀ {k i : Nat} {u : Value}, X.cell? ⟨k, i, none⟩ = some u → some k ≠ some L := fun hc e => by
    have e := Option.some.inj e
    subst e
    obtain ⟨o', ho', hc'⟩ := cells_of_cell hc
    have := h.rec_
    simp only at ho'
    rw [this] at ho'
    cases ho'
    cases hc'
  obtain ⟨b3, b4, b6, b8, b9, bD, bL, bb⟩ := hb.hi
  have hs := h.sz
  obtain ⟨v1, v2, e1, e2, e3, e4, e5, e6⟩ := h.c8
  obtain ⟨u4, hu4⟩ := h.c4.1
  refine ⟨h.kept.grown hg (fun r e => by cases e; exact hb.lo.2.2.2.2.2.2), hg.cell h.c3 (hne h.c3), hg.cell h.c6 (hne h.c6), hg.cell h.c9 (hne h.c9), frozen_same hg (by omega) (hne h.c9) h.f9,
    ⟨h.c4.1.imp fun u hu => hg.cell hu (hne hu), h.c4.2.1.imp fun u hu => hg.cell hu (hne hu), fun o => frozen_same hg (by omega) (hne hu4) (h.c4.2.2 o)⟩, ⟨v1, v2, hg.cell e1 (hne e1), hg.cell e2 (hne e2), e3.map (fun b o u hc _ => hg.cell hc (hne hc)) hg.size, e4.map (fun b o u hc _ => hg.cell hc (hne hc)) hg.size, e5, e6⟩,
    fun o => frozen_same hg (by omega) (hne e1) (h.f8 o), h.web.grownNe hg (hne h.web.n), World.putObj_heap_same (by omega), (World.putObj_heap_other (fun e => hb.ne.2.2.2.2.2.2.2.2.2 e.symm)).trans h.def_, by simpa using h.lt, by simpa using h.sz, h.st1⟩
theorem heap_set_ne {X : World} {k j o : Nat} {u : Value} (h : j ≠ k) : (X.setCell ⟨k, o, none⟩ u).heap[j]? = X.heap[j]? := Below.heap_setCell X ⟨k, o, none⟩ u j h
theorem JW.set9 {w : World} {B b D L t3 t4 t6 t8 t9 : Nat} {W : Web} {dry : Int} {rc : Obj} {T : Nat → Prop} {st : Int × List Int × List Int} {X : World} (hb : JB w B b D L t3 t4 t6 t8 t9) (hL : L ≠ t9 ∧ D ≠ t9) (h : JW w B b D L t3 t4 t6 t8 t9 W dry rc T st X) (x : Int) (hx : -1 ≤ x ∧ x ≤ 30000) :
    JW w B b D L t3 t4 t6 t8 t9 W dry rc T (x, st.2) (X.setCell ⟨t9, 0, none⟩ (.int .i64 x)) := by
  obtain ⟨n1, n2, n3, n4, n5, n6, n7, n8, n9, n10⟩ := hb.ne
  obtain ⟨b3, b4, b6, b8, b9, bD, bL, bb⟩ := hb.hi
  obtain ⟨v1, v2, e1, e2, e3, e4, e5, e6⟩ := h.c8
  exact ⟨h.kept.setCell (p := ⟨t9, 0, none⟩) hb.lo.2.2.2.2.1 _, cell_set_block h.c3 n3, cell_set_block h.c6 n5, cell_set_same h.c9, by rw [World.frozen?_setCell]; exact h.f9,
    ⟨h.c4.1.imp fun u hu => cell_set_block hu n7, h.c4.2.1.imp fun u hu => cell_set_block hu n7, fun o => by rw [World.frozen?_setCell]; exact h.c4.2.2 o⟩,
    ⟨v1, v2, cell_set_block e1 n1, cell_set_block e2 n1, e3.set _ (fun ao c a e => by have := e5 a ao c e; omega), e4.set _ (fun ao c a e => by have := e6 a ao c e; omega), e5, e6⟩,
    fun o => by rw [World.frozen?_setCell]; exact h.f8 o, h.web.setOther n9, (heap_set_ne hL.1).trans h.rec_, (heap_set_ne hL.2).trans h.def_, fun r h' => by have := h.lt r h'; simpa [World.setCell] using this, by have := h.sz; simpa [World.setCell] using this, hx⟩
theorem JW.set8 {w : World} {B b D L t3 t4 t6 t8 t9 : Nat} {W : Web} {dry : Int} {rc : Obj} {T : Nat → Prop} {st : Int × List Int × List Int} {X : World} (hb : JB w B b D L t3 t4 t6 t8 t9) (hL : L ≠ t8 ∧ D ≠ t8) (h : JW w B b D L t3 t4 t6 t8 t9 W dry rc T st X) {v1 v2 : Value} {o1 d1 : List Int}
    (h1 : LstT T X v1 o1) (h2 : LstT T X v2 d1) (h3 : ∀ a n c, v1 = .slice (some a) n c → B ≤ a.block) (h4 : ∀ a n c, v2 = .slice (some a) n c → B ≤ a.block) :
    JW w B b D L t3 t4 t6 t8 t9 W dry rc T (st.1, o1, d1) ((X.setCell ⟨t8, 0, none⟩ v1).setCell ⟨t8, 1, none⟩ v2) := by
  obtain ⟨n1, n2, n3, n4, n5, n6, n7, n8, n9, n10⟩ := hb.ne
  obtain ⟨b3, b4, b6, b8, b9, bD, bL, bb⟩ := hb.hi
  obtain ⟨u1, u2, e1, e2, e3, e4, e5, e6⟩ := h.c8
  have k : ∀ {j i : Nat} {u : Value}, X.cell? ⟨j, i, none⟩ = some u → j ≠ t8 → ((X.setCell ⟨t8, 0, none⟩ v1).setCell ⟨t8, 1, none⟩ v2).cell? ⟨j, i, none⟩ = some u := fun hc hne => cell_set_block (cell_set_block hc hne) hne
  have f : ∀ j i, ((X.setCell ⟨t8, 0, none⟩ v1).setCell ⟨t8, 1, none⟩ v2).frozen? ⟨j, i, none⟩ = X.frozen? ⟨j, i, none⟩ := fun j i => by rw [World.frozen?_setCell, World.frozen?_setCell]
  exact ⟨(h.kept.setCell (p := ⟨t8, 0, none⟩) hb.lo.2.2.2.1 _).setCell (p := ⟨t8, 1, none⟩) hb.lo.2.2.2.1 _, k h.c3 n2, k h.c6 n4, k h.c9 (Ne.symm n1), (f _ _).trans h.f9,
    ⟨h.c4.1.imp fun u hu => k hu n6, h.c4.2.1.imp fun u hu => k hu n6, fun o => (f _ _).trans (h.c4.2.2 o)⟩,
    ⟨v1, v2, cell_set_off (cell_set_same e1) (by omega), cell_set_same (cell_set_off e2 (by omega)), (h1.set _ (fun ao c a e => by have := h3 a ao c e; omega)).set _ (fun ao c a e => by have := h3 a ao c e; omega), (h2.set _ (fun ao c a e => by have := h4 a ao c e; omega)).set _ (fun ao c a e => by have := h4 a ao c e; omega), h3, h4⟩,
    fun o => (f _ _).trans (h.f8 o), (h.web.setOther n8).setOther n8, (heap_set_ne hL.1).trans ((heap_set_ne hL.1).trans h.rec_), (heap_set_ne hL.2).trans ((heap_set_ne hL.2).trans h.def_), fun r h' => by have := h.lt r h'; simpa [World.setCell] using this, by have := h.sz; simpa [World.setCell] using this, h.st1⟩

theorem Wk.low {B : Nat} {T : Nat → Prop} {X : World} {k o : Nat} (hk : k < B) (u : Value) : Wk B T X (X.setCell ⟨k, o, none⟩ u) := ⟨by simp [World.setCell], fun j hj _ _ => heap_set_ne (by omega)⟩
theorem Wk.put {B : Nat} {T : Nat → Prop} {X : World} {k : Nat} (hk : k < B) (o : Obj) : Wk B T X (X.putObj k o) := ⟨by simp, fun j hj _ _ => World.putObj_heap_other (by omega)⟩
theorem Wk.then {B : Nat} {X Y Z : World} (h : Wk B (fun _ => False) X Y) (k : Wk B (fun _ => False) Y Z) : Wk B (fun _ => False) X Z := h.trans k (fun _ h => .inl h)
theorem Wk.ints {B : Nat} {X Y : World} (h : Wk B (fun _ => False) X Y) {g : Nat} {l : List Int} (hi : Ints X (some ⟨g, 0, none⟩) l) (hg : B ≤ g) : Ints Y (some ⟨g, 0, none⟩) l := fun i hi' => by
  obtain ⟨b, off, e, hc⟩ := hi i hi'
  simp only [Option.some.injEq, Addr.mk.injEq] at e
  obtain ⟨rfl, rfl, -⟩ := e
  exact ⟨g, 0, rfl, h.cell hc hg id⟩
theorem OwnI.lstT {T : Nat → Prop} {X : World} {base : Nat} {v : Value} {l : List Int} (h : OwnI X base v l) (ht : ∀ r, T r → r < base) : LstT T X v l ∧ ∀ a n c, v = .slice (some a) n c → base ≤ a.block := by
  obtain ⟨ao, c, hv, _, hi⟩ := h.slice
  have key : ∀ a n c, v = .slice (some a) n c → base ≤ a.block ∧ a.block < X.heap.size := fun a n c e => by
    rcases h.2 with ⟨e2, _⟩ | ⟨g, cap, cur, e2, hb, hgg, _⟩
    · rw [e2] at e; cases e
    · rw [e2] at e
      simp only [Value.slice.injEq, Option.some.injEq] at e
      obtain ⟨rfl, -, -⟩ := e
      exact ⟨hb, (Array.getElem?_eq_some_iff.1 hgg).1⟩
  exact ⟨⟨ao, c, hv, hi, fun a e => by
    subst e
    have := key a _ _ hv
    exact ⟨fun h' => by have := ht _ h'; omega, this.2⟩⟩, fun a n c e => (key a n c e).1⟩
theorem Arr.lstT {T : Nat → Prop} {X : World} {g : Nat} {l : List Int} (h : Arr X g l) (ht : ¬ T g) {n : Nat} (hn : l.length = n) : LstT T X (.slice (some ⟨g, 0, none⟩) n n) l := ⟨some ⟨g, 0, none⟩, n, by rw [hn], h.ints, fun a e => by cases e; exact ⟨ht, h.lt⟩⟩

theorem results_cell_tmp {P : Program} {fn : Func} {t u : Tmp} {ty : TypeId} (h : fn.results = #[.cell t ty, .tmp u]) (tmps : Array Value) (w : World) (a : Addr) (ha : tmps.getD t undef = .pointer (some a)) (v : Value) (hl : (loadVar ty a).run P w = .ok v w) :
    (results fn tmps).run P w = .ok (.tuple #[v, tmps.getD u undef]) w := by
  rw [Array.getD_eq_getD_getElem?] at ha
  simp [results, h, asAddr, ha, hl]
theorem load33 {w : World} {k : Nat} {v1 v2 : Value} (h0 : w.cell? ⟨k, 0, none⟩ = some v1) (h1 : w.cell? ⟨k, 1, none⟩ = some v2) : (loadVar 33 ⟨k, 0, none⟩).run Try.prog w = .ok (.agg #[v1, v2]) w := by
  simp [go_sem, h0, h1]
theorem last_eq {x : Int} {n : Nat} (hn : 0 < n) (h : (x == ((n - 1 : Nat) : Int)) = true) : x = (n : Int) - 1 := by
  have h2 : x = ((n - 1 : Nat) : Int) := by simpa using h
  omega

/-- A slice of the list l. -/
def Lst (X : World) (v : Value) (l : List Int) : Prop := ∃ ao c, v = .slice ao l.length c ∧ Ints X ao l
def WaitPost (ok : List Int → List Int → Prop) (w : World) (e : Ending) (w' : World) : Prop :=
  ∃ v1 v2 o1 d1, e = .returned (.tuple #[.agg #[v1, v2], .int .i64 0]) ∧ ok o1 d1 ∧ Lst w' v1 o1 ∧ Lst w' v2 d1 ∧ Kept w w'

theorem LstT.lst {T : Nat → Prop} {X : World} {v : Value} {l : List Int} (h : LstT T X v l) : Lst X v l := let ⟨ao, c, hv, hi, _⟩ := h; ⟨ao, c, hv, hi⟩
theorem wait_fin {w : World} {B b D L t3 t4 t6 t8 t9 : Nat} {W : Web} {dry : Int} {rc : Obj} {T : Nat → Prop} {st : Int × List Int × List Int} {Z : World} (hb : JB w B b D L t3 t4 t6 t8 t9) (hne : t4 ≠ D) (h : JW w B b D L t3 t4 t6 t8 t9 W dry rc T st Z) {v1 v2 : Value}
    (h1 : LstT T Z v1 st.2.1) (h2 : LstT T Z v2 st.2.2) (h3 : ∀ a n c, v1 = .slice (some a) n c → B ≤ a.block) (h4 : ∀ a n c, v2 = .slice (some a) n c → B ≤ a.block) :
    ((Z.setCell ⟨t4, 0, none⟩ v1).setCell ⟨t4, 1, none⟩ v2).heap[D]? = some (.deferred (some [])) ∧
    (((Z.setCell ⟨t4, 0, none⟩ v1).setCell ⟨t4, 1, none⟩ v2).putObj D (.deferred none)).cell? ⟨t4, 0, none⟩ = some v1 ∧
    (((Z.setCell ⟨t4, 0, none⟩ v1).setCell ⟨t4, 1, none⟩ v2).putObj D (.deferred none)).cell? ⟨t4, 1, none⟩ = some v2 ∧
    Lst (((Z.setCell ⟨t4, 0, none⟩ v1).setCell ⟨t4, 1, none⟩ v2).putObj D (.deferred none)) v1 st.2.1 ∧ Lst (((Z.setCell ⟨t4, 0, none⟩ v1).setCell ⟨t4, 1, none⟩ v2).putObj D (.deferred none)) v2 st.2.2 ∧
    Kept w (((Z.setCell ⟨t4, 0, none⟩ v1).setCell ⟨t4, 1, none⟩ v2).putObj D (.deferred none)) := by
  obtain ⟨b3, b4, b6, b8, b9, bD, bL, bb⟩ := hb.hi
  obtain ⟨⟨u0, g0⟩, ⟨u1, g1⟩, gf⟩ := h.c4
  have hgp := grownBy_putObj' ((Z.setCell ⟨t4, 0, none⟩ v1).setCell ⟨t4, 1, none⟩ v2) D (.deferred none)
  have hn4 : some t4 ≠ some D := fun e => hne (Option.some.inj e)
  have key : ∀ {v : Value} {l : List Int}, LstT T Z v l → (∀ a n c, v = .slice (some a) n c → B ≤ a.block) → Lst (((Z.setCell ⟨t4, 0, none⟩ v1).setCell ⟨t4, 1, none⟩ v2).putObj D (.deferred none)) v l := fun hl hB =>
    ((((hl.set (k := t4) (o := 0) v1 (fun ao c a e => by have := hB a ao c e; omega)).set (k := t4) (o := 1) v2 (fun ao c a e => by have := hB a ao c e; omega)).map (Y := (((Z.setCell ⟨t4, 0, none⟩ v1).setCell ⟨t4, 1, none⟩ v2).putObj D (.deferred none))) (fun b' o u hc hbk => by
      obtain ⟨ao, c, hv, hi, ha⟩ := hl
      cases ao with
      | none => exact hgp.cell hc (fun e => by
          have e := Option.some.inj e
          subst e
          obtain ⟨o', ho', hc'⟩ := cells_of_cell hc
          have h9 : ((Z.setCell ⟨t4, 0, none⟩ v1).setCell ⟨t4, 1, none⟩ v2).heap[b']? = some (.deferred (some [])) := heap_set_deferred (heap_set_deferred h.def_ _ _) _ _
          simp only at ho'
          rw [h9] at ho'
          cases ho'
          cases hc')
      | some a => exact hgp.cell hc (fun e => by
          have e : b' = D := Option.some.inj e
          have h1 := hbk a _ _ hv
          have h2 := hB a _ _ hv
          omega)) hgp.size)).lst
  exact ⟨heap_set_deferred (heap_set_deferred h.def_ _ _) _ _, hgp.cell (cell_set_off (cell_set_same g0) (by omega)) hn4, hgp.cell (cell_set_same (cell_set_off g1 (by omega))) hn4, key h1 h3, key h2 h4,
    ((h.kept.setCell (p := ⟨t4, 0, none⟩) hb.lo.2.1 _).setCell (p := ⟨t4, 1, none⟩) hb.lo.2.1 _).grown hgp (fun r e => by cases e; exact hb.lo.2.2.2.2.2.1)⟩

set_option maxHeartbeats 3000000 in
theorem Wait_ok (o : Prob) (ao bo : Option Addr) (ca cb : Nat) (dry : Int) (w : World) (ho : IsProb w o ao bo) (h : errS o = 0) (hdry : 0 ≤ dry ∧ dry ≤ 30) (hn8 : (webOf o).n ≤ 8) (hn0 : 0 < (webOf o).n) :
    Calls Try.prog 28 #[probV o ao ca bo cb, .int .i64 dry] w (WaitPost (fun o1 d1 => ∃ q, q <+: ordersL (webOf o) ∧ (waitAll (webOf o) dry q).2 = (o1, d1) ∧ (q = ordersL (webOf o) ∨ (waitAll (webOf o) dry q).1 = (webOf o).n - 1)) w) := by
  have HO := Lib.hid ho
  obtain ⟨h1, h2⟩ := errS_ok h
  have H1 := Lib.hid h1
  have H2 := Lib.hid h2
  clear ho h h1 h2
  have hdb : (decide (0 ≤ dry) && decide (dry ≤ 30)) = true := by simp; omega
  have HDB := Lib.hid hdb
  clear hdb
  refine calls_of_wp_marks Try.func28 rfl ?_
  simp only [Try.ntmps28, List.size_toArray, List.length_cons, List.length_nil, Nat.reduceAdd, Nat.reduceSub, Array.replicate_succ, Array.replicate_zero, List.push_toArray, List.append_toArray, List.nil_append, List.cons_append]
  go_wp2_with fail
  obtain ⟨w0, e0, hk0, hb0, hs0⟩ := alloc_prob w o.N o.arcs o.near ao ca bo cb
  rw [e0, hs0]
  clear e0
  have hc3 : ((w0.alloc (.cells #[.int .i64 dry] 3)).alloc (.cells #[.slice none 0 0, .slice none 0 0] 33)).cell? ⟨w0.heap.size, 0, none⟩ = some (.int .i64 dry) := by simp [go_sem]
  have hc40 : ((w0.alloc (.cells #[.int .i64 dry] 3)).alloc (.cells #[.slice none 0 0, .slice none 0 0] 33)).cell? ⟨w0.heap.size + 1, 0, none⟩ = some (.slice none 0 0) := by simp [go_sem]
  have hc41 : ((w0.alloc (.cells #[.int .i64 dry] 3)).alloc (.cells #[.slice none 0 0, .slice none 0 0] 33)).cell? ⟨w0.heap.size + 1, 1, none⟩ = some (.slice none 0 0) := by simp [go_sem]
  have hf4 : ∀ o, ((w0.alloc (.cells #[.int .i64 dry] 3)).alloc (.cells #[.slice none 0 0, .slice none 0 0] 33)).frozen? ⟨w0.heap.size + 1, o, none⟩ = false := fun o => by simp [go_sem]
  have hz2 : ((w0.alloc (.cells #[.int .i64 dry] 3)).alloc (.cells #[.slice none 0 0, .slice none 0 0] 33)).heap.size = w0.heap.size + 2 := by simp
  have hk2 : Kept w ((w0.alloc (.cells #[.int .i64 dry] 3)).alloc (.cells #[.slice none 0 0, .slice none 0 0] 33)) := (hk0.alloc _).alloc _
  generalize ((w0.alloc (.cells #[.int .i64 dry] 3)).alloc (.cells #[.slice none 0 0, .slice none 0 0] 33)) = w2 at *
  obtain ⟨t3, ht3⟩ : ∃ t3, w0.heap.size = t3 := ⟨_, rfl⟩
  rw [ht3] at hc3 hc40 hc41 hf4 hz2 hs0 ⊢
  have HK2 := Lib.hid hk2
  have HC3 := Lib.hid hc3
  have HC40 := Lib.hid hc40
  have HC41 := Lib.hid hc41
  have HF4 := Lib.hid hf4
  have HZ2 := Lib.hid hz2
  have HS0 := Lib.hid hs0
  clear hk0 hb0 hs0 hc40 hc41 hf4 hz2 hk2 hc3 ht3 w0
  refine (open_ok o ao bo ca cb w2 (HO.out.kept HK2.out) H1.out).mono ?_
  rintro e w3 ⟨b, rfl, hw3, hk3⟩
  generalize hWW : webOf o = W at *
  have HWE := Lib.hid hWW
  clear hWW
  have HW3 := Lib.hid hw3
  have HK3 := Lib.hid hk3
  have q1 := hk3.cell HC3.out
  have q2 := hw3.n
  have l1 := lt_of_cell q1
  have l2 := lt_of_cell q2
  have hgt : decide ((W.n : Int) > 8) = false := decide_eq_false (by omega)
  have hnz : ((W.n : Int) == 0) = false := by simp; omega
  clear hw3 hk3
  go_wp2_with fail
  refine (isDry_any dry _).mono ?_
  rintro e w4 ⟨rfl, rfl⟩
  rw [HDB.out]
  go_wp2_with fail
  refine (circular_any b W _ (HW3.out.kept ((Kept.refl w3).alloc _)) (by omega)).mono ?_
  rintro e w4 ⟨rfl, rfl⟩
  rw [H2.out]
  go_wp2_with fail
  obtain ⟨t6, ht6⟩ : ∃ t6, w3.heap.size = t6 := ⟨_, rfl⟩
  have hk4 : Kept w3 (((w3.alloc (.cells #[.pointer (some ⟨b, 0, none⟩)] 88)).alloc (.cells #[.slice none 0 0, .slice none 0 0] 33)).alloc (.cells #[.int .i64 2000] 3)) := (((Kept.refl w3).alloc _).alloc _).alloc _
  have h46 : (((w3.alloc (.cells #[.pointer (some ⟨b, 0, none⟩)] 88)).alloc (.cells #[.slice none 0 0, .slice none 0 0] 33)).alloc (.cells #[.int .i64 2000] 3)).cell? ⟨w3.heap.size, 0, none⟩ = some (.pointer (some ⟨b, 0, none⟩)) := by simp [go_sem]
  have h480 : (((w3.alloc (.cells #[.pointer (some ⟨b, 0, none⟩)] 88)).alloc (.cells #[.slice none 0 0, .slice none 0 0] 33)).alloc (.cells #[.int .i64 2000] 3)).cell? ⟨w3.heap.size + 1, 0, none⟩ = some (.slice none 0 0) := by simp [go_sem]
  have h481 : (((w3.alloc (.cells #[.pointer (some ⟨b, 0, none⟩)] 88)).alloc (.cells #[.slice none 0 0, .slice none 0 0] 33)).alloc (.cells #[.int .i64 2000] 3)).cell? ⟨w3.heap.size + 1, 1, none⟩ = some (.slice none 0 0) := by simp [go_sem]
  have hf8 : ∀ o, (((w3.alloc (.cells #[.pointer (some ⟨b, 0, none⟩)] 88)).alloc (.cells #[.slice none 0 0, .slice none 0 0] 33)).alloc (.cells #[.int .i64 2000] 3)).frozen? ⟨w3.heap.size + 1, o, none⟩ = false := fun o => by simp [go_sem]
  have h49 : (((w3.alloc (.cells #[.pointer (some ⟨b, 0, none⟩)] 88)).alloc (.cells #[.slice none 0 0, .slice none 0 0] 33)).alloc (.cells #[.int .i64 2000] 3)).cell? ⟨w3.heap.size + 2, 0, none⟩ = some (.int .i64 2000) := by simp [go_sem]
  have hf9 : (((w3.alloc (.cells #[.pointer (some ⟨b, 0, none⟩)] 88)).alloc (.cells #[.slice none 0 0, .slice none 0 0] 33)).alloc (.cells #[.int .i64 2000] 3)).frozen? ⟨w3.heap.size + 2, 0, none⟩ = false := by simp [go_sem]
  have hz4 : (((w3.alloc (.cells #[.pointer (some ⟨b, 0, none⟩)] 88)).alloc (.cells #[.slice none 0 0, .slice none 0 0] 33)).alloc (.cells #[.int .i64 2000] 3)).heap.size = w3.heap.size + 3 := by simp
  generalize (((w3.alloc (.cells #[.pointer (some ⟨b, 0, none⟩)] 88)).alloc (.cells #[.slice none 0 0, .slice none 0 0] 33)).alloc (.cells #[.int .i64 2000] 3)) = w4 at *
  have hsz3 := HK3.out.size
  rw [HZ2.out] at hsz3
  have hs0 := HS0.out
  rw [ht6] at h46 h480 h481 hf8 h49 hf9 hz4 l1 l2 hsz3 ⊢
  have HT36 : Hid (t3 + 2 ≤ t6) := hsz3
  have HBB : Hid (JB w (t6 + 5) b (t6 + 3) (t6 + 4) t3 (t3 + 1) t6 (t6 + 1) (t6 + 2)) := ⟨by omega, by omega, by omega⟩
  have HKW : Hid (Kept w w4) := (HK2.out.trans HK3.out).trans hk4
  have HJ0 : Hid (∀ rc : Obj, JW w (t6 + 5) b (t6 + 3) (t6 + 4) t3 (t3 + 1) t6 (t6 + 1) (t6 + 2) W dry rc (fun _ => False) (waitAll W dry []) ((w4.alloc (.deferred (some []))).alloc rc)) := by
    intro rc
    have hk5 : Kept w4 ((w4.alloc (.deferred (some []))).alloc rc) := ((Kept.refl w4).alloc _).alloc _
    have hk35 := hk4.trans hk5
    have hk25 := HK3.out.trans hk35
    have hL : ((w4.alloc (.deferred (some []))).alloc rc).heap[t6 + 4]? = some rc := by
      have := World.alloc_heap_new (w4.alloc (.deferred (some []))) rc
      rwa [World.size_alloc, hz4] at this
    have hD : ((w4.alloc (.deferred (some []))).alloc rc).heap[t6 + 3]? = some (.deferred (some [])) := by
      have := World.alloc_heap_new w4 (.deferred (some []))
      rw [hz4] at this
      exact (Below.heap_alloc _ _ _ (by simp; omega)).trans this
    exact ⟨HKW.out.trans hk5, hk25.cell HC3.out, hk5.cell h46, hk5.cell h49, (hk5.cells.2 _ 0 (lt_of_cell h49)).trans hf9, ⟨⟨_, hk25.cell HC40.out⟩, ⟨_, hk25.cell HC41.out⟩, fun o => (hk25.cells.2 _ o (lt_of_cell HC40.out)).trans (HF4.out o)⟩,
      ⟨_, _, hk5.cell h480, hk5.cell h481, LstT.nil _ _, LstT.nil _ _, fun a n c e => (by cases e), fun a n c e => (by cases e)⟩, fun o => (hk5.cells.2 _ o (lt_of_cell h480)).trans (hf8 o), HW3.out.kept hk35, hL, hD, fun r h => h.elim, by simp [hz4], by show -1 ≤ (2000 : Int) ∧ (2000 : Int) ≤ 30000; omega⟩
  have HN8 := Lib.hid hn8
  have HN0 := Lib.hid hn0
  have HZ4 := Lib.hid hz4
  clear q1 q2 l1 l2 hk4 h46 h480 h481 hf8 h49 hf9 hs0 hsz3 ht6 hgt hnz HK2 HC3 HC40 HC41 HF4 HZ2 HS0 HW3 HK3
  refine range_wide rfl Try.call87 ?_
  intro fn rc hrc
  rw [hz4]
  have HRC := Lib.hid hrc
  have host : Host (t6 + 5) b (t6 + 4) W (fun T pre X => JW w (t6 + 5) b (t6 + 3) (t6 + 4) t3 (t3 + 1) t6 (t6 + 1) (t6 + 2) W dry (.loop (rc .ready none)) T (waitAll W dry pre) X)
      (fun T pre X => JW w (t6 + 5) b (t6 + 3) (t6 + 4) t3 (t3 + 1) t6 (t6 + 1) (t6 + 2) W dry (.loop (rc .done (some (.exit 1)))) T (waitAll W dry pre) X ∧ (waitAll W dry pre).1 = W.n - 1) := by
    refine ⟨fun hj hg hr ht => hj.turn HBB.out hg hr ht, fun hj hg hr ht => ⟨hj.1.turn HBB.out hg hr ht, hj.2⟩, fun hj => hj.web, ?_⟩
    intro T pre l g c X hj ht hints hl hc hin hnd
    refine YieldAt.mono (round_yield (m := 8) (args := #[.slice (some ⟨g, 0, none⟩) l.length c]) rfl rc hrc hj.rec_ ?a1
      (fun Y => JW w (t6 + 5) b (t6 + 3) (t6 + 4) t3 (t3 + 1) t6 (t6 + 1) (t6 + 2) W dry (.loop (rc .ready none)) T (waitAll W dry (pre ++ [l])) Y ∧ Wk (t6 + 5) (fun _ => False) X Y)
      (fun cd Y => cd = .exit 1 ∧ (JW w (t6 + 5) b (t6 + 3) (t6 + 4) t3 (t3 + 1) t6 (t6 + 1) (t6 + 2) W dry (.loop (rc .done (some (.exit 1)))) T (waitAll W dry (pre ++ [l])) Y ∧ (waitAll W dry (pre ++ [l])).1 = W.n - 1) ∧ Wk (t6 + 5) (fun _ => False) X Y) ?assign ?body) ?fin
    case fin =>
      rintro e Y (⟨rfl, h1, h2⟩ | ⟨rfl, cd, -, h1, h2⟩)
      · exact .inl ⟨rfl, h1, h2⟩
      · exact .inr ⟨rfl, h1, h2⟩
    case assign =>
      intro K hK
      gi_wp2
      exact hK
    case body =>
      have hjb := hj.put HBB.out (.loop (rc .busy none))
      have hw0 : Wk (t6 + 5) (fun _ => False) X (X.putObj (t6 + 4) (.loop (rc .busy none))) := Wk.put (by omega) _
      have hgB := (hj.lt g ht).1
      have hi0 := hw0.ints hints hgB
      have hs0 : X.heap.size = (X.putObj (t6 + 4) (.loop (rc .busy none))).heap.size := by simp
      have HS0 := Lib.hid hs0
      have HTL : Hid (∀ r, T r → r < X.heap.size) := fun r h => (hj.lt r h).2
      generalize (X.putObj (t6 + 4) (.loop (rc .busy none))) = X0 at *
      have HJB := Lib.hid hjb
      have HW0 := Lib.hid hw0
      have HI0 := Lib.hid hi0
      have HGB := Lib.hid hgB
      have HLN := Lib.hid hl
      have HIN := Lib.hid hin
      have q3 := hjb.c3
      have q6 := hjb.c6
      have hdd := days_any b W dry l (some ⟨g, 0, none⟩) c X0 hjb.web (by omega) hi0 (by omega) hc hin hdry.1 hdry.2
      obtain ⟨p, hp1, hpn, hp2⟩ := getD_nat (W := W) hin (show W.n - 1 < l.length by omega)
      obtain ⟨b', o', e', hcl⟩ := hi0 (W.n - 1) (by omega)
      simp only [Option.some.injEq, Addr.mk.injEq] at e'
      obtain ⟨rfl, rfl, -⟩ := e'
      rw [hp2, Nat.zero_add] at hcl
      have HEND : Hid (endOf W dry l = (daysOf W dry l).getD p 0) := by
        show _ = _
        unfold endOf
        rw [hl, hp1, Int.toNat_natCast]
      have hrow := daysOf_row (W := W) (dry := dry) hdry (l := l) (by omega)
      rw [hl] at hdd hc
      have HDD := Lib.hid hdd
      have HROW := Lib.hid hrow
      have HCC := Lib.hid hc
      have hmc : ((W.n - 1 : Nat) : Int) < W.n := by omega
      have hmc2 : W.n - 1 < W.n := by omega
      have hpw : (p : Int) < W.n := by omega
      have hnw : IntKind.i64.wrap ((W.n : Int) - 1) = ((W.n - 1 : Nat) : Int) := by rw [IntWalk.i64_in _ (by omega)]; omega
      have HST : Hid (waitAll W dry (pre ++ [l]) = waitStep W dry (waitAll W dry pre) l) := waitAll_snoc _ _ _ _
      generalize waitAll W dry (pre ++ [l]) = st2 at *
      generalize waitAll W dry pre = st at *
      have HCL := Lib.hid hcl
      clear hjb hw0 hi0 hgB hs0 hl hin hdd hrow hp1 hp2 hj hints hnd hrc HRC ht hz4 hcl hc
      gi_wp2_with fail
      refine ⟨trivial, (CallsIn.inRound (t6 + 4) (callsIn_wide.2 HDD.out)).mono ?_⟩
      rintro e X1 ⟨g2, rfl, hg2, harr, hk1⟩
      have hJ1 := HJB.out.turn (T' := T) HBB.out (grownBy_kept (World.grownBy.refl X0 none) hk1) (fun r e => by cases e) (fun r h => .inl h)
      have HJ1 := Lib.hid hJ1
      have HA1 := Lib.hid harr
      have HW1 := Lib.hid (HW0.out.then (Wk.of_kept hk1))
      have HI1 := Lib.hid (HI0.out.kept hk1)
      have HG2 : Hid (X.heap.size ≤ g2) := by have := HS0.out; show _ ≤ _; omega
      have hcl := hk1.cell HCL.out
      have hpd : p < (daysOf W dry l).length := by rw [HROW.out.1]; exact hpn
      have hdc := harr.get p hpd
      have hdd : (daysOf W dry l).getD p 0 = (daysOf W dry l)[p] := by rw [List.getD_eq_getElem?_getD, List.getElem?_eq_getElem hpd]; rfl
      have hdb := HROW.out.getD (by omega) p
      rw [hdd] at hdb
      generalize (daysOf W dry l)[p] = dp at hdc hdd hdb
      have HDP : Hid (endOf W dry l = dp) := HEND.out.trans hdd
      have c9 := hJ1.c9
      have f9 := hJ1.f9
      have lt9 := lt_of_cell c9
      have c6 := hJ1.c6
      have cn := hJ1.web.n
      clear hg2 harr hk1 hJ1 hpd hdd q3 q6 HDD HCL
      by_cases hlt : dp < st.1
      · have HS2 : Hid (st2 = (dp, l, daysOf W dry l)) := by
          show _ = _
          rw [HST.out]
          unfold waitStep
          rw [HDP.out, if_pos hlt]
        have HJ2 := Lib.hid (HJ1.out.set9 HBB.out ⟨by omega, by omega⟩ dp (by omega))
        have HW2 := Lib.hid (HW1.out.then (Wk.low (k := t6 + 2) (o := 0) (by omega) (.int .i64 dp)))
        have HI2 := Lib.hid ((Wk.low (B := t6 + 5) (T := fun _ => False) (X := X1) (k := t6 + 2) (o := 0) (by omega) (.int .i64 dp)).ints HI1.out HGB.out)
        have HA2 := Lib.hid (HA1.out.setOther (b := t6 + 2) (o := 0) (u := .int .i64 dp) (by have := HG2.out; have := HTL.out; have := HJ1.out.sz; have h8 := HJB.out.sz; have h7 := HS0.out; omega))
        gi_wp2_with fail
        have hcc := clone_any l g 0 c _ HI2.out (by rw [HLN.out]; omega)
        rw [HLN.out] at hcc
        refine ⟨trivial, (CallsIn.inRound (t6 + 4) (callsIn_wide.2 hcc)).mono ?_⟩
        clear hcc
        rintro e X3 ⟨vc, rfl, hown, hk3⟩
        obtain ⟨ao', c', hvc, -, -⟩ := hown.slice
        have hX1 : X.heap.size ≤ (X1.setCell ⟨t6 + 2, 0, none⟩ (.int .i64 dp)).heap.size := HW2.out.size
        obtain ⟨hl1, hl2⟩ := hown.lstT (T := T) (fun r h => Nat.lt_of_lt_of_le (HTL.out r h) hX1)
        subst hvc
        have hJ3 := HJ2.out.turn (T' := T) HBB.out (grownBy_kept (World.grownBy.refl _ none) hk3) (fun r e => by cases e) (fun r h => .inl h)
        have hnT : ¬ T g2 := fun h => by have := HTL.out g2 h; have := HG2.out; omega
        have hA3 := (HA2.out.kept hk3).lstT (T := T) hnT HROW.out.1
        have hJ4 := hJ3.set8 HBB.out ⟨by omega, by omega⟩ hl1 hA3 (fun a n c e => Nat.le_trans (Nat.le_trans HJ2.out.sz (Nat.le_refl _)) (hl2 a n c e)) (fun a n c e => by cases e; have := HG2.out; have := HJB.out.sz; have := HS0.out; simp only; omega)
        have HJ4 := Lib.hid hJ4
        have HW4 := Lib.hid (((HW2.out.then (Wk.of_kept hk3)).then (Wk.low (k := t6 + 1) (o := 0) (by omega) (.slice ao' l.length c'))).then (Wk.low (k := t6 + 1) (o := 1) (by omega) (.slice (some ⟨g2, 0, none⟩) W.n W.n)))
        obtain ⟨u1, u2, e80, e81, -⟩ := hJ3.c8
        have f80 := hJ3.f8 0
        have f81 := hJ3.f8 1
        have l8 := lt_of_cell e80
        have k9 := hJ4.c9
        have k6 := hJ4.c6
        have kn := hJ4.web.n
        clear hown hk3 hl1 hl2 hJ3 hA3 hJ4 c9 f9 lt9 c6 cn hcl hdc hX1
        gi_wp2_with fail
        have HJ5 := Lib.hid (HJ4.out.turn (T' := T) HBB.out (grownBy_kept (World.grownBy.refl _ none) (Kept.refl _).drew) (fun r e => by cases e) (fun r h => .inl h))
        have HW5 := Lib.hid (HW4.out.then (Wk.of_kept (Kept.refl _).drew))
        refine regionIn_tail 6 (by kernel_rfl) (by kernel_rfl) (by kernel_rfl) ?_
        simp only [List.take_succ_cons, List.take_zero, List.drop_succ_cons, List.drop_zero]
        iterate 6 still_step
        refine wpStill_nil ?_
        cases he : (dp == ((W.n - 1 : Nat) : Int))
        · go_wp2
          unfold onlyN
          gi_wp2
          refine ⟨HJ5.out.rec_, ?_, HW5.out.then (Wk.put (by omega) _)⟩
          rw [HS2.out]
          exact HJ5.out.put HBB.out _
        · have he' := last_eq HN0.out he
          have HE := Lib.hid he'
          clear he'
          go_wp2
          unfold onlyN
          gi_wp2
          refine ⟨HJ5.out.rec_, rfl, ⟨?_, ?_⟩, HW5.out.then (Wk.put (by omega) _)⟩
          · rw [HS2.out]
            exact HJ5.out.put HBB.out _
          · rw [HS2.out]
            exact HE.out
      · have HS2 : Hid (st2 = st) := by
          show _ = _
          rw [HST.out]
          unfold waitStep
          rw [HDP.out, if_neg hlt]
        gi_wp2_with fail
        have HJ5 := Lib.hid (HJ1.out.turn (T' := T) HBB.out (grownBy_kept (World.grownBy.refl _ none) (Kept.refl _).drew) (fun r e => by cases e) (fun r h => .inl h))
        have HW5 := Lib.hid (HW1.out.then (Wk.of_kept (Kept.refl _).drew))
        refine regionIn_tail 6 (by kernel_rfl) (by kernel_rfl) (by kernel_rfl) ?_
        simp only [List.take_succ_cons, List.take_zero, List.drop_succ_cons, List.drop_zero]
        iterate 6 still_step
        refine wpStill_nil ?_
        cases he : (st.1 == ((W.n - 1 : Nat) : Int))
        · go_wp2
          unfold onlyN
          gi_wp2
          refine ⟨HJ5.out.rec_, ?_, HW5.out.then (Wk.put (by omega) _)⟩
          rw [HS2.out]
          exact HJ5.out.put HBB.out _
        · have he' := last_eq HN0.out he
          have HE := Lib.hid he'
          clear he'
          go_wp2
          unfold onlyN
          gi_wp2
          refine ⟨HJ5.out.rec_, rfl, ⟨?_, ?_⟩, HW5.out.then (Wk.put (by omega) _)⟩
          · rw [HS2.out]
            exact HJ5.out.put HBB.out _
          · rw [HS2.out]
            exact HE.out
  refine (orders_any (t6 + 5) b (t6 + 4) W (by omega) hn0 _ _ host _ (by simp [hz4]) (HJ0.out _)).mono ?_
  clear host hrc
  rintro e Y ⟨hv, (⟨T, hj⟩ | ⟨T, q, hq, hj, hlast⟩)⟩
  · refine ⟨hv, .inl ⟨hj.rec_, ?_⟩⟩
    have hjp := hj.put HBB.out (.loop (rc .exhausted none))
    generalize (Y.putObj (t6 + 4) (.loop (rc .exhausted none))) = Z at *
    have HJP := Lib.hid hjp
    obtain ⟨v1, v2, e0, e1, hl1, hl2, hB1, hB2⟩ := hjp.c8
    have HF := Lib.hid (wait_fin HBB.out (by have := HBB.out.hi; have := HT36.out; omega) hjp hl1 hl2 hB1 hB2)
    obtain ⟨⟨u0, g0⟩, ⟨u1, g1⟩, gf⟩ := hjp.c4
    have gf0 := gf 0
    have gf1 := gf 1
    have lz := lt_of_cell g0
    obtain ⟨a1, n1, rfl, -, -⟩ := hl1
    obtain ⟨a2, n2, rfl, -, -⟩ := hl2
    clear hjp gf HRC hj hv hz4 hB1 hB2
    go_wp2
    obtain ⟨f1, f2, f3, f4, f5, f6⟩ := HF.out
    refine ⟨by simp, .inl ⟨t6 + 3, _, rfl, run_takeDeferred f1, ?_⟩⟩
    exact ⟨_, results_cell_tmp rfl _ _ ⟨t3 + 1, 0, none⟩ rfl _ (load33 f2 f3), _, _, _, _, rfl, by rw [HWE.out]; exact ⟨ordersL W, List.prefix_refl _, rfl, .inl rfl⟩, f4, f5, f6⟩
  · refine ⟨hv, .inr ⟨.exit 1, hj.rec_, ?_⟩⟩
    have HQ := Lib.hid hq
    have HLAST := Lib.hid hlast
    clear hq hlast
    have hjp := hj.put HBB.out (.loop (rc .exhausted (some (.exit 1))))
    generalize (Y.putObj (t6 + 4) (.loop (rc .exhausted (some (.exit 1))))) = Z at *
    have HJP := Lib.hid hjp
    obtain ⟨v1, v2, e0, e1, hl1, hl2, hB1, hB2⟩ := hjp.c8
    have HF := Lib.hid (wait_fin HBB.out (by have := HBB.out.hi; have := HT36.out; omega) hjp hl1 hl2 hB1 hB2)
    obtain ⟨⟨u0, g0⟩, ⟨u1, g1⟩, gf⟩ := hjp.c4
    have gf0 := gf 0
    have gf1 := gf 1
    have lz := lt_of_cell g0
    obtain ⟨a1, n1, rfl, -, -⟩ := hl1
    obtain ⟨a2, n2, rfl, -, -⟩ := hl2
    clear hjp gf HRC hj hv hz4 hB1 hB2
    go_wp2
    obtain ⟨f1, f2, f3, f4, f5, f6⟩ := HF.out
    refine ⟨by simp, .inl ⟨t6 + 3, _, rfl, run_takeDeferred f1, ?_⟩⟩
    exact ⟨_, results_cell_tmp rfl _ _ ⟨t3 + 1, 0, none⟩ rfl _ (load33 f2 f3), _, _, _, _, rfl, by rw [HWE.out]; exact ⟨q, HQ.out, rfl, .inr HLAST.out⟩, f4, f5, f6⟩
end Go.Proofs.Yteljjkghjbofnaa
