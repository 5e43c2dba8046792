/- Slices of numbers that the call itself appends to; First. -/
import Derived.Test.YteljjkghjbofnaaWg
set_option maxRecDepth 100000
namespace Go.Proofs.Yteljjkghjbofnaa
open Go Go.Proofs Go.RowKit
attribute [local go_sem] Oper.semAt_some

/-! ### append -/

/-- v is a slice of the call's own that holds the numbers l. -/
def OwnI (X : World) (base : Nat) (v : Value) (l : List Int) : Prop := X.ownsRow base 3 1 v l.length (l.map (.int .i64))

theorem OwnI.nil (X : World) (base : Nat) : OwnI X base (.slice none 0 0) [] := World.ownsRow_nil X base 3 1
theorem OwnI.slice {X : World} {base : Nat} {v : Value} {l : List Int} (h : OwnI X base v l) : ∃ ao c, v = .slice ao l.length c ∧ l.length ≤ c ∧ Ints X ao l := by
  rcases h.2 with ⟨rfl, h0⟩ | ⟨g, cap, cur, rfl, hbg, hgg, hnc, hcm, hcs, htake⟩
  · have : l = [] := List.eq_nil_of_length_eq_zero (by simpa using h0)
    subst this
    exact ⟨none, 0, rfl, Nat.le_refl _, Ints.nil _ _⟩
  · refine ⟨some ⟨g, 0, none⟩, cap, rfl, hnc, fun i hi => ⟨g, 0, rfl, ?_⟩⟩
    rw [Nat.zero_add, cell_of_row _ _ _ _ _ _ hgg]
    have e : (cur.toList.take (l.length * 1))[i]? = cur.toList[i]? := by rw [List.getElem?_take, if_pos (by omega)]
    rw [htake] at e
    rw [← Array.getElem?_toList, ← e, List.getElem?_map, List.getElem?_eq_getElem hi]
    rfl
theorem OwnI.kept {X Y : World} {base : Nat} {v : Value} {l : List Int} (h : OwnI X base v l) (hk : Kept X Y) : OwnI Y base v l := by
  refine ⟨h.1, ?_⟩
  rcases h.2 with hn | ⟨g, cap, cur, rfl, hb, hgg, rest⟩
  · exact .inl hn
  · exact .inr ⟨g, cap, cur, rfl, hb, (hk.below.block g (Array.getElem?_eq_some_iff.1 hgg).1).trans hgg, rest⟩
theorem OwnI.lt {X : World} {base : Nat} {v : Value} {l : List Int} (h : OwnI X base v l) : ∀ k, v.ownBlock = some k → base ≤ k ∧ k < X.heap.size := World.ownsRow.lt h
theorem OwnI.grown {X Y : World} {base : Nat} {v : Value} {l : List Int} {row : Option Nat} (h : OwnI X base v l) (hg : X.grownBy Y row) (hr : ∀ r, row = some r → ∃ o : Obj, X.heap[r]? = some o ∧ o.isCells = false) : OwnI Y base v l := by
  refine ⟨h.1, ?_⟩
  rcases h.2 with hn | ⟨g, cap, cur, rfl, hb, hgg, rest⟩
  · exact .inl hn
  · refine .inr ⟨g, cap, cur, rfl, hb, (hg.block g (Array.getElem?_eq_some_iff.1 hgg).1 (fun e => ?_)).trans hgg, rest⟩
    obtain ⟨o, ho, hc⟩ := hr g e.symm
    rw [hgg] at ho; cases ho; cases hc
theorem OwnI.setBelow {X : World} {base : Nat} {v : Value} {l : List Int} (h : OwnI X base v l) {a : Addr} (ha : a.block < base) (u : Value) : OwnI (X.setCell a u) base v l := ownsRow_setCell_below h ha u
theorem OwnI.shuts {B base : Nat} {X Y : World} {v : Value} {l : List Int} (h : OwnI X base v l) (hs : Shuts B X Y) : OwnI Y base v l := by
  refine ⟨h.1, ?_⟩
  rcases h.2 with hn | ⟨g, cap, cur, rfl, hb, hgg, rest⟩
  · exact .inl hn
  · exact .inr ⟨g, cap, cur, rfl, hb, hs.cells _ _ _ _ hgg, rest⟩
theorem OwnI.base {X : World} {base base' : Nat} {v : Value} {l : List Int} (h : OwnI X base v l) (hb : base' ≤ base) : OwnI X base' v l := by
  refine ⟨h.1, ?_⟩
  rcases h.2 with hn | ⟨g, cap, cur, rfl, hb', rest⟩
  · exact .inl hn
  · exact .inr ⟨g, cap, cur, rfl, by omega, rest⟩

theorem own_succ {X : World} {base : Nat} {v : Value} {l : List Int} {y : Int} (h : X.ownsRow base 3 1 v (l.length + 1) (l.map (.int .i64) ++ [.int .i64 y])) :
    ∃ g c, v = .slice (some ⟨g, 0, none⟩) (l.length + 1) c ∧ OwnI X base v (l ++ [y]) := by
  have h' : OwnI X base v (l ++ [y]) := by
    unfold OwnI; simpa using h
  rcases h.2 with ⟨_, h0⟩ | ⟨g, cap, cur, rfl, _⟩
  · omega
  · exact ⟨g, cap, rfl, h'⟩

theorem append_int {ops : Array Oper} {rest : List Oper} {o : Oper} {a : Act} {Q : Exit → Act → World → Prop} (w : World) (hg : o.guard = none) (s x : Operand)
    (ho : o.op = .call { callee := .builtin .append, args := #[s, x], argTypes := #[31, 31] }) (base : Nat) (v : Value) (l : List Int) (hs : a.eval s = v) (hown : OwnI w base v l)
    (g c : Nat) (y : Int) (hx : a.eval x = .slice (some ⟨g, 0, none⟩) 1 c) (hy : w.cell? ⟨g, 0, none⟩ = some (.int .i64 y)) (hl : l.length < 1099511627776) (hbase : base ≤ w.heap.size)
    (h : ∀ g' c' w', OwnI w' base (.slice (some ⟨g', 0, none⟩) (l.length + 1) c') (l ++ [y]) → w.grownBy w' v.ownBlock → wpList Try.prog ops Q rest (a.put o.dst (.slice (some ⟨g', 0, none⟩) (l.length + 1) c')) w') :
    wpList Try.prog ops Q (o :: rest) a w := by
  obtain ⟨i0, hi, hz0, hz1, hz2⟩ := info_parts info3
  refine wpList_append_own w hg s x 31 ho base 3 i0 (.int .i64 0) 1 8 Try.underlying31 hi hz0 hz1 hz2 rfl (by decide) v l.length _ hs hown ⟨g, 0, none⟩ 1 c [.int .i64 y] hx rfl
    (fun j u hu => ?_) (by simp [Value.oneCell']) (by unfold maxLen; omega) (by omega) hbase ?_
  · cases j with
    | zero => simp at hu; subst hu; exact hy
    | succ j => simp at hu
  · intro v' w' h1 h2 _
    obtain ⟨g', c', rfl, h3⟩ := own_succ h1
    exact h g' c' w' h3 h2

theorem append_intIn {F : Fence} {n : Nat} {ops : Array Oper} {rest : List Oper} {o : Oper} {a : Act} {Q : Exit → Act → World → Prop} (w : World) (hg : o.guard = none) (s x : Operand)
    (ho : o.op = .call { callee := .builtin .append, args := #[s, x], argTypes := #[31, 31] }) (base : Nat) (v : Value) (l : List Int) (hs : a.eval s = v) (hown : OwnI w base v l)
    (g c : Nat) (y : Int) (hx : a.eval x = .slice (some ⟨g, 0, none⟩) 1 c) (hy : w.cell? ⟨g, 0, none⟩ = some (.int .i64 y)) (hl : l.length < 1099511627776) (hbase : base ≤ w.heap.size)
    (h : ∀ g' c' w', OwnI w' base (.slice (some ⟨g', 0, none⟩) (l.length + 1) c') (l ++ [y]) → w.grownBy w' v.ownBlock → wpListIn F n Try.prog ops Q rest (a.put o.dst (.slice (some ⟨g', 0, none⟩) (l.length + 1) c')) w') :
    wpListIn F n Try.prog ops Q (o :: rest) a w := by
  obtain ⟨i0, hi, hz0, hz1, hz2⟩ := info_parts info3
  refine wpListIn_append_own w hg s x 31 ho base 3 i0 (.int .i64 0) 1 8 Try.underlying31 hi hz0 hz1 hz2 rfl (by decide) v l.length _ hs hown ⟨g, 0, none⟩ 1 c [.int .i64 y] hx rfl
    (fun j u hu => ?_) (by simp [Value.oneCell']) (by unfold maxLen; omega) (by omega) hbase ?_
  · cases j with
    | zero => simp at hu; subst hu; exact hy
    | succ j => simp at hu
  · intro v' w' h1 h2 _
    obtain ⟨g', c', rfl, h3⟩ := own_succ h1
    exact h g' c' w' h3 h2

/-! ### First -/

/-- The first k patches of the first order. -/
def firstL (W : Web) : Nat → List Int
  | 0 => []
  | k + 1 => firstL W k ++ [(((readyL W (setS (firstL W k))).headD 0 : Nat) : Int)]
/-- The first order of a web without circles. -/
def firstOf (W : Web) : List Int := firstL W W.n

/-- Whatever different patches are done: some patch may come next. -/
def Goes (W : Web) : Prop := ∀ l : List Int, (∀ p ∈ l, 0 ≤ p ∧ p < (W.n : Int)) → l.Nodup → l.length < W.n → readyL W (setS l) ≠ []

/-- The two variables of a function that builds a list of patches: box bo holds the slice vb, box bd the set d; l is what the slice v owns; Ds: the blocks for deferred calls. -/
structure FSt (w : World) (bo bd base : Nat) (Ds : List Nat) (vb : Value) (d : S) (v : Value) (l : List Int) (X : World) : Prop where
  kept : Kept w X
  sz : base ≤ X.heap.size
  cv : X.cell? ⟨bo, 0, none⟩ = some vb
  fv : X.frozen? ⟨bo, 0, none⟩ = false
  cd : X.cell? ⟨bd, 0, none⟩ = some (.int .u32 (sI d))
  fd : X.frozen? ⟨bd, 0, none⟩ = false
  own : OwnI X base v l
  ds : ∀ D ∈ Ds, base ≤ D ∧ X.heap[D]? = some (.deferred (some []))

section
variable {w : World} {bo bd base : Nat} {Ds : List Nat} {vb : Value} {d : S} {v : Value} {l : List Int} {X Y : World}
theorem FSt.grown {B : Nat} {row : Option Nat} (h : FSt w bo bd base Ds vb d v l X) (hg : X.grownBy Y row)
    (hr : ∀ r, row = some r → B ≤ r ∧ ∃ o : Obj, X.heap[r]? = some o ∧ o.isCells = false) (hB : w.heap.size ≤ B) (hD : ∀ D ∈ Ds, D < B) : FSt w bo bd base Ds vb d v l Y :=
  ⟨h.kept.grown hg (fun r e => Nat.le_trans hB (hr r e).1), Nat.le_trans h.sz hg.size, cell_kept h.cv hg (fun r e => (hr r e).2), (frozen_kept h.cv hg (fun r e => (hr r e).2)).trans h.fv,
   cell_kept h.cd hg (fun r e => (hr r e).2), (frozen_kept h.cd hg (fun r e => (hr r e).2)).trans h.fd, h.own.grown hg (fun r e => (hr r e).2),
   fun D hd => ⟨(h.ds D hd).1, (hg.block D (Array.getElem?_eq_some_iff.1 (h.ds D hd).2).1 (fun e => by have := (hr D e.symm).1; have := hD D hd; omega)).trans (h.ds D hd).2⟩⟩
theorem FSt.keptBy (h : FSt w bo bd base Ds vb d v l X) (hk : Kept X Y) : FSt w bo bd base Ds vb d v l Y :=
  ⟨h.kept.trans hk, Nat.le_trans h.sz hk.size, hk.cell h.cv, (hk.cells.2 bo 0 (lt_of_cell h.cv)).trans h.fv, hk.cell h.cd, (hk.cells.2 bd 0 (lt_of_cell h.cd)).trans h.fd, h.own.kept hk,
   fun D hd => ⟨(h.ds D hd).1, (hk.below.block D (Array.getElem?_eq_some_iff.1 (h.ds D hd).2).1).trans (h.ds D hd).2⟩⟩
theorem own_row_cells (h : OwnI X base v l) : ∀ (j : Nat) (o : Obj), v.ownBlock = some j → X.heap[j]? = some o → o.isCells = true := by
  intro j o hj ho
  rcases h.2 with ⟨rfl, _⟩ | ⟨g, cap, cur, rfl, hb, hgg, rest⟩
  · simp [Value.ownBlock] at hj
  · simp [Value.ownBlock] at hj; subst hj; rw [hgg] at ho; cases ho; rfl
theorem FSt.append {v' : Value} {l' : List Int} (h : FSt w bo bd base Ds vb d v l X) (hg : X.grownBy Y v.ownBlock) (hown : OwnI Y base v' l') (hb : w.heap.size ≤ base) (h1 : bo < base) (h2 : bd < base) : FSt w bo bd base Ds vb d v' l' Y := by
  have hne : ∀ k, k < base → some k ≠ v.ownBlock := fun k hk e => by have := (h.own.lt k e.symm).1; omega
  refine ⟨h.kept.grown hg (fun r e => Nat.le_trans hb (h.own.lt r e).1), Nat.le_trans h.sz hg.size, hg.cell h.cv (hne bo h1), ?_, hg.cell h.cd (hne bd h2), ?_, hown, fun D hd => ⟨(h.ds D hd).1, ?_⟩⟩
  · exact (World.frozen?_of_block (a := ⟨bo, 0, none⟩) (hg.block bo (lt_of_cell h.cv) (hne bo h1))).trans h.fv
  · exact (World.frozen?_of_block (a := ⟨bd, 0, none⟩) (hg.block bd (lt_of_cell h.cd) (hne bd h2))).trans h.fd
  · refine (hg.block D (Array.getElem?_eq_some_iff.1 (h.ds D hd).2).1 (fun e => ?_)).trans (h.ds D hd).2
    have := own_row_cells h.own D _ e.symm (h.ds D hd).2
    cases this
theorem heap_set_deferred {D : Nat} {ds : Option (List Deferred)} (h : X.heap[D]? = some (.deferred ds)) (a : Addr) (u : Value) : (X.setCell a u).heap[D]? = some (.deferred ds) :=
  (KeepsOthers.setCell X a u).same D _ h rfl
theorem FSt.setOut (h : FSt w bo bd base Ds vb d v l X) (hw : w.heap.size ≤ bo) (h1 : bo < base) (h2 : bo ≠ bd) (u : Value) : FSt w bo bd base Ds u d v l (X.setCell ⟨bo, 0, none⟩ u) :=
  ⟨h.kept.setCell hw u, by simpa [World.setCell] using h.sz, cell_set_same h.cv, by rw [World.frozen?_setCell]; exact h.fv, cell_set_block h.cd (Ne.symm h2), by rw [World.frozen?_setCell]; exact h.fd, h.own.setBelow h1 u,
   fun D hd => ⟨(h.ds D hd).1, heap_set_deferred (h.ds D hd).2 _ _⟩⟩
theorem FSt.setDone (h : FSt w bo bd base Ds vb d v l X) (hw : w.heap.size ≤ bd) (h1 : bd < base) (h2 : bo ≠ bd) (d' : S) : FSt w bo bd base Ds vb d' v l (X.setCell ⟨bd, 0, none⟩ (.int .u32 (sI d'))) :=
  ⟨h.kept.setCell hw _, by simpa [World.setCell] using h.sz, cell_set_block h.cv h2, by rw [World.frozen?_setCell]; exact h.fv, cell_set_same h.cd, by rw [World.frozen?_setCell]; exact h.fd, h.own.setBelow h1 _,
   fun D hd => ⟨(h.ds D hd).1, heap_set_deferred (h.ds D hd).2 _ _⟩⟩
end

theorem WebAt.grownNe {b : Nat} {W : Web} {X Y : World} {row : Option Nat} (h : WebAt X b W) (hg : X.grownBy Y row) (hne : some b ≠ row) : WebAt Y b W :=
  ⟨hg.cell h.n hne, fun a ha => hg.cell (h.to a ha) hne, fun a ha => hg.cell (h.reach a ha) hne, fun a ha => hg.cell (h.near a ha) hne,
   fun o => (World.frozen?_of_block (a := ⟨b, o, none⟩) (hg.block b (lt_of_cell h.n) hne)).trans (h.free o)⟩
theorem Stat.grownNe {c1 c2 b : Nat} {W : Web} {d : S} {X Y : World} {row : Option Nat} (h : Stat c1 c2 b W d X) (hg : X.grownBy Y row) (h1 : some c1 ≠ row) (h2 : some c2 ≠ row) (h3 : some b ≠ row) : Stat c1 c2 b W d Y :=
  ⟨hg.cell h.c1 h1, hg.cell h.c2 h2, h.web.grownNe hg h3⟩
theorem Stat.setOther {c1 c2 b : Nat} {W : Web} {d : S} {X : World} (h : Stat c1 c2 b W d X) {b' o : Nat} (h1 : c1 ≠ b') (h2 : c2 ≠ b') (h3 : b ≠ b') (u : Value) : Stat c1 c2 b W d (X.setCell ⟨b', o, none⟩ u) :=
  ⟨cell_set_block h.c1 h1, cell_set_block h.c2 h2, h.web.setOther h3⟩

def FirstPost (W : Web) (w : World) (e : Ending) (w' : World) : Prop := ∃ v, e = .returned v ∧ OwnI w' w.heap.size v (firstOf W) ∧ Kept w w'

/-- The frame and the world at the head of the loop of 'first'. -/
def FirstInv (w : World) (b bo bd base : Nat) (W : Web) (a : Act) (X : World) : Prop :=
  ∃ (k : Nat) (v : Value) (Ds : List Nat) (u5 u6 u7 u8 u9 u10 u11 u12 u13 u14 u15 u16 u17 u18 u19 u20 u21 u22 u23 u24 u25 : Value), a = { tmps := #[.pointer (some ⟨b, 0, none⟩), undef, .slice none 0 0, .pointer (some ⟨bo, 0, none⟩), .pointer (some ⟨bd, 0, none⟩), u5, u6, u7, u8, u9, u10, u11, u12, u13, u14, u15, u16, u17, u18, u19, u20, u21, u22, u23, u24, u25], defers := marks Ds } ∧
    k ≤ W.n ∧ FSt w bo bd base Ds v (setS (firstL W k)) v (firstL W k) X ∧ Ds.Nodup ∧ (firstL W k).length = k ∧ (∀ p ∈ firstL W k, 0 ≤ p ∧ p < (W.n : Int)) ∧ (firstL W k).Nodup
/-- How many patches are still to come. -/
def firstLeft (bo n : Nat) (X : World) : Nat := match X.cell? ⟨bo, 0, none⟩ with | some (.slice _ k _) => n - k | _ => 0

set_option maxHeartbeats 1600000 in
theorem first_any (b : Nat) (W : Web) (w : World) (hw : WebAt w b W) (hn : W.n ≤ 24) (hgo : Goes W) :
    Calls Try.prog 103 #[.pointer (some ⟨b, 0, none⟩)] w (FirstPost W w) := by
  have HW := Lib.hid hw
  have HGO := Lib.hid hgo
  clear hw hgo
  refine calls_of_wp_marks Try.func103 rfl ?_
  simp only [Try.ntmps103, List.size_toArray, List.length_cons, List.length_nil, Nat.reduceAdd, Nat.reduceSub, Array.replicate_succ, Array.replicate_zero, List.push_toArray, List.append_toArray, List.nil_append, List.cons_append]
  go_wp2
  have hk0 : Kept w ((w.alloc (.cells #[.slice none 0 0] 31)).alloc (.cells #[.int .u32 0] 93)) := ((Kept.refl w).alloc _).alloc _
  have hst0 : FSt w w.heap.size (w.heap.size + 1) (w.heap.size + 2) [] (.slice none 0 0) (setS []) (.slice none 0 0) [] ((w.alloc (.cells #[.slice none 0 0] 31)).alloc (.cells #[.int .u32 0] 93)) :=
    ⟨hk0, by simp, by simp [go_sem], by simp [go_sem], by simp [go_sem]; rfl, by simp [go_sem], OwnI.nil _ _, fun D h => by cases h⟩
  generalize ((w.alloc (.cells #[.slice none 0 0] 31)).alloc (.cells #[.int .u32 0] 93)) = w0 at *
  obtain ⟨bo, hbo⟩ : ∃ bo, w.heap.size = bo := ⟨_, rfl⟩
  obtain ⟨bd, hbd⟩ : ∃ bd, w.heap.size + 1 = bd := ⟨_, rfl⟩
  obtain ⟨base, hbase⟩ : ∃ base, w.heap.size + 2 = base := ⟨_, rfl⟩
  rw [hbase, hbd, hbo] at hst0
  rw [hbd, hbo]
  have HB : Hid (w.heap.size ≤ bo ∧ bo < base ∧ bd < base ∧ bo ≠ bd ∧ w.heap.size ≤ bd) := ⟨by omega, by omega, by omega, by omega, by omega⟩
  clear hk0 hbo hbd
  have HST0 := Lib.hid hst0
  clear hst0 hbase
  refine wp_loop (FirstInv w b bo bd base W) (fun _ X => firstLeft bo W.n X) ⟨0, .slice none 0 0, [], _, _, _, _, _, _, _, _, _, _, _, _, _, _, _, _, _, _, _, _, _, rfl, Nat.zero_le _, HST0.out, List.nodup_nil, rfl, by simp [firstL], by simp [firstL]⟩ ?_
  rintro a X ⟨k, v, Ds, u5, u6, u7, u8, u9, u10, u11, u12, u13, u14, u15, u16, u17, u18, u19, u20, u21, u22, u23, u24, u25, rfl, hk, hst, hnd, hlen, hin, hdup⟩
  clear HST0
  have HST := Lib.hid hst
  have HND := Lib.hid hnd
  have HLEN := Lib.hid hlen
  have HIN := Lib.hid hin
  have HDUP := Lib.hid hdup
  obtain ⟨ao, c, hv, hc, _⟩ := hst.own.slice
  rw [hlen] at hv hc
  have hcv := hst.cv
  have hcd := hst.cd
  have hwn := (HW.out.kept hst.kept).n
  subst hv
  clear hst hnd hlen hin hdup
  by_cases hlt : k < W.n
  · go_wp2
    refine region_tail 6 (by kernel_rfl) (by kernel_rfl) ?_
    simp only [List.take_succ_cons, List.take_zero, List.drop_succ_cons, List.drop_zero]
    repeat still_step
    refine wpStill_nil ?_
    go_wp2_with fail
    refine (ready_any b W (setS (firstL W k)) _ ((HW.out.kept HST.out.kept).kept (Kept.refl X).drew)).mono ?_
    rintro e X1 ⟨c1, c2, rfl, hc1, hc2, hstat, hk1⟩
    have HS1 := Lib.hid hstat
    have hst1 := (HST.out.keptBy (Kept.refl X).drew).keptBy hk1
    have HST1 := Lib.hid hst1
    have HC : Hid (bo < c1 ∧ bo < c2 ∧ bd < c1 ∧ bd < c2 ∧ (∀ g, (Value.slice ao k c).ownBlock = some g → g < c1 ∧ g < c2)) := by
      have h1 := lt_of_cell HST.out.cv
      have h2 := lt_of_cell HST.out.cd
      have h3 : X.drew.heap.size = X.heap.size := rfl
      rw [h3] at hc1 hc2
      exact ⟨by omega, by omega, by omega, by omega, fun g hg => by have := (HST.out.own.lt g hg).2; omega⟩
    clear hstat hst1 hk1 hcv hcd hwn hc1 hc2
    go_wp2_with fail
    refine range_ready (c1 := c1) (c2 := c2) (b := b) (W := W) (d := setS (firstL W k)) rfl HS1.out hn rfl
      (fun pre Y => pre = [] ∧ FSt w bo bd base Ds (.slice ao k c) (setS (firstL W k)) (.slice ao k c) (firstL W k) Y)
      (fun cd pre Y => cd = .exit 2 ∧ ∃ (x : Rdy W (setS (firstL W k))) (v' : Value), pre = [x] ∧ FSt w bo bd base Ds v' (setS (firstL W k ++ [(x.val : Int)])) v' (firstL W k ++ [(x.val : Int)]) Y)
      ?hI ?hIx ⟨rfl, HST1.out⟩
      (fun x => { tmps := #[.pointer (some ⟨b, 0, none⟩), undef, .slice none 0 0, .pointer (some ⟨bo, 0, none⟩), .pointer (some ⟨bd, 0, none⟩), .int .i64 x.val, .slice ao k c, .int .i64 k, .pointer (some ⟨b, 0, none⟩), .pointer (some ⟨b, 0, none⟩), .pointer (some ⟨b, 0, none⟩), .int .i64 W.n, .bool true, .pointer (some ⟨b, 0, none⟩),
        .int .u32 (sI (setS (firstL W k))), .func (.func 146) #[] #[.pointer (some ⟨c1, 0, none⟩), .pointer (some ⟨c2, 0, none⟩)], .int .i64 x.val, u17, u18, u19, u20, u21, u22, u23, u24, u25], defers := [] }) ?assign ?body ?done ?stop
    case hI =>
      intro s A B row hs hg hr
      exact ⟨hs.1, hs.2.grown hg hr HST1.out.kept.size (fun D hD => (Array.getElem?_eq_some_iff.1 (HST1.out.ds D hD).2).1)⟩
    case hIx =>
      rintro cd s A B row ⟨e, x, v', hx, hs⟩ hg hr
      exact ⟨e, x, v', hx, hs.grown hg hr HST1.out.kept.size (fun D hD => (Array.getElem?_eq_some_iff.1 (HST1.out.ds D hD).2).1)⟩
    case assign =>
      intro l x X K hK
      gi_wp2
      exact hK
    case body =>
      rintro l pre x Y ⟨rfl, hst⟩ hstat
      have HS := Lib.hid hst
      have HT := Lib.hid hstat
      have hcv := hst.cv
      have hbo := lt_of_cell hcv
      clear hst hstat
      have hx32 : x.val < 32 := by have := (mem_readyL.1 x.2).1; omega
      have HX32 := Lib.hid hx32
      gi_wp2_with (gi_at_builtin; refine append_intIn _ rfl _ _ rfl base (.slice ao k c) (firstL W k) rfl (HS.out.own.kept ((Kept.refl _).alloc _)) Y.heap.size 1 x.val rfl (by simp [go_sem]) (by rw [HLEN.out]; omega) (Nat.le_trans HS.out.sz (by simp)) ?_; intro g' c' w1 hown1 hg1; have HG1 := Lib.hid hg1; have HF1 := Lib.hid ((HS.out.keptBy ((Kept.refl Y).alloc _)).append hg1 hown1 (Nat.le_of_lt (Nat.lt_of_le_of_lt HB.out.1 HB.out.2.1)) HB.out.2.1 HB.out.2.2.1); clear hown1 hg1 hcv hbo; have hcv1 := HF1.out.cv; have hfv1 := HF1.out.fv)
      clear hcv1 hfv1
      have HF2 := Lib.hid (HF1.out.setOut HB.out.1 HB.out.2.1 HB.out.2.2.2.1 (.slice (some ⟨g', 0, none⟩) ((firstL W k).length + 1) c'))
      have HKF : Hid (KeepsOthers Y (w1.setCell ⟨bo, 0, none⟩ (.slice (some ⟨g', 0, none⟩) ((firstL W k).length + 1) c'))) :=
        ((KeepsOthers.alloc Y _).trans (KeepsOthers.of_grownBy HG1.out (own_row_cells (HS.out.own.kept ((Kept.refl Y).alloc _))))).trans (KeepsOthers.setCell _ _ _)
      generalize (w1.setCell ⟨bo, 0, none⟩ (.slice (some ⟨g', 0, none⟩) ((firstL W k).length + 1) c')) = w2 at *
      have hcd2 := HF2.out.cd
      have hfd2 := HF2.out.fd
      refine regionIn_tail 4 (by kernel_rfl) (by kernel_rfl) (by kernel_rfl) ?_
      simp only [List.take_succ_cons, List.take_zero, List.drop_succ_cons, List.drop_zero]
      repeat still_step
      still_call Calls_still (one_any _ _ HX32.out)
      repeat still_step
      refine wpStill_nil ?_
      go_wp2
      unfold onlyN
      gi_wp2
      refine ⟨((HKF.out.trans (KeepsOthers.setCell _ _ _)).trans (KeepsOthers.drew _)).from _, rfl, x, (.slice (some ⟨g', 0, none⟩) ((firstL W k).length + 1) c'), rfl, ?_⟩
      rw [setS_snoc, Int.toNat_natCast]
      exact (HF2.out.setDone HB.out.2.2.2.2 HB.out.2.2.1 HB.out.2.2.2.1 _).keptBy (Kept.refl _).drew
    case done =>
      rintro D xs X hD hxs ⟨rfl, _⟩ _
      exact absurd hxs.symm (HGO.out _ HIN.out HDUP.out (by rw [HLEN.out]; exact hlt))
    case stop =>
      rintro D cd pre Y hD hpre ⟨rfl, x, v', rfl, hst2⟩ hdef
      have hx := mem_readyL.1 x.2
      have hxn : (x.val : Int) ∉ firstL W k := by
        have h := hx.2
        unfold readyB at h
        rw [hasS_setS _ (fun p hp => by have := HIN.out p hp; omega)] at h
        simp at h
        exact h.1
      have hnext : firstL W (k + 1) = firstL W k ++ [(x.val : Int)] := by
        show firstL W k ++ [_] = _
        obtain ⟨r, hr⟩ := hpre
        have e : ∀ L : List Nat, [x.val] ++ r = L → L.headD 0 = x.val := by rintro _ rfl; rfl
        rw [e _ hr]
      have HX := Lib.hid hx
      have HXN := Lib.hid hxn
      have HNX := Lib.hid hnext
      have HST2 := Lib.hid hst2
      have HDEF := Lib.hid hdef
      have HPD := Lib.hid hD
      clear hx hxn hnext hst2 hdef hpre hD
      go_wp2
      have hlen2 : (firstL W (k + 1)).length = k + 1 := by rw [HNX.out, List.length_append, HLEN.out]; rfl
      refine ⟨⟨k + 1, v', D :: Ds, _, _, _, _, _, _, _, _, _, _, _, _, _, _, _, _, _, _, _, _, _, rfl, by omega, ?_, ?_, hlen2, ?_, ?_⟩, ?_⟩
      · rw [HNX.out]
        exact ⟨HST2.out.kept, HST2.out.sz, HST2.out.cv, HST2.out.fv, HST2.out.cd, HST2.out.fd, HST2.out.own, fun D' hD' => by
          rcases List.mem_cons.1 hD' with rfl | h
          · exact ⟨Nat.le_trans HST1.out.sz HPD.out, HDEF.out⟩
          · exact HST2.out.ds D' h⟩
      · refine List.nodup_cons.2 ⟨fun h => ?_, HND.out⟩
        have := (Array.getElem?_eq_some_iff.1 (HST1.out.ds D h).2).1
        have := HPD.out
        omega
      · rw [HNX.out]
        intro p hp
        rcases List.mem_append.1 hp with h | h
        · exact HIN.out p h
        · simp at h; subst h; have := HX.out.1; omega
      · rw [HNX.out, List.nodup_append]
        exact ⟨HDUP.out, by simp, fun a ha b hb e => by simp at hb; subst hb; subst e; exact HXN.out ha⟩
      · obtain ⟨ao', c', hv', _, _⟩ := HST2.out.own.slice
        have e1 : firstLeft bo W.n Y = W.n - (k + 1) := by
          unfold firstLeft
          rw [HST2.out.cv, hv']
          simp [HLEN.out]
        have e2 : firstLeft bo W.n X = W.n - k := by
          unfold firstLeft
          rw [HST.out.cv]
        rw [e1, e2]
        omega
  · have ek : k = W.n := by omega
    have HEK := Lib.hid ek
    clear ek
    go_wp2
    refine region_tail 6 (by kernel_rfl) (by kernel_rfl) ?_
    simp only [List.take_succ_cons, List.take_zero, List.drop_succ_cons, List.drop_zero]
    repeat still_step
    refine wpStill_nil ?_
    go_wp2
    refine leaves_marks (B := base) Ds X.drew (fun D hD => HST.out.ds D hD) HND.out (fun w' hs => ⟨_, results_tmp rfl _ _ _, .slice ao k c, rfl, ?_, ?_⟩)
    · have h := ((HST.out.own.kept (Kept.refl X).drew).shuts hs).base (Nat.le_of_lt (Nat.lt_of_le_of_lt HB.out.1 HB.out.2.1))
      unfold firstOf
      rw [← HEK.out]
      exact h
    · exact hs.kept (HST.out.kept.trans (Kept.refl X).drew) (Nat.le_of_lt (Nat.lt_of_le_of_lt HB.out.1 HB.out.2.1))

end Go.Proofs.Yteljjkghjbofnaa
