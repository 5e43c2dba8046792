/- Nth. -/
import Derived.Test.YteljjkghjbofnaaWq
set_option maxRecDepth 100000
namespace Go.Proofs.Yteljjkghjbofnaa
open Go Go.Proofs Go.RowKit
attribute [local go_sem] Oper.semAt_some

theorem wpQuiet_skip {P : Program} {ops : Array Oper} {C : World → Prop} {Q : Act → Prop} {a : Act} {o : Oper} {rest : List Oper} (hw : Region.wanted o (yielded ops a.tmps) = false) (hn : wpQuiet P ops C Q rest (a.put o.dst undef)) : wpQuiet P ops C Q (o :: rest) a := by
  unfold wpQuiet
  rw [if_neg (by rw [hw]; simp)]
  exact hn


structure NX (kx c8 kb wb cb mb b : Nat) (W : Web) (k : Int) (X : World) : Prop where
  memo : Memo kb wb cb mb b W X
  fn : X.cell? ⟨c8, 0, none⟩ = some (closureV kb wb cb)
  kc : X.cell? ⟨kx, 0, none⟩ = some (.int .i64 k)
  kf : X.frozen? ⟨kx, 0, none⟩ = false
/-- Where these blocks lie. -/
structure NB (B0 B kx c8 kb wb cb mb b : Nat) : Prop where
  lo : B0 ≤ kx ∧ B0 ≤ mb
  hi : kx < B ∧ c8 < B ∧ kb < B ∧ wb < B ∧ cb < B ∧ mb < B ∧ b < B
  ne : kx ≠ mb ∧ c8 ≠ mb ∧ kx ≠ c8 ∧ kx ≠ kb ∧ kx ≠ wb ∧ kx ≠ cb ∧ kx ≠ b

section
variable {B0 B kx c8 kb wb cb mb b : Nat} {W : Web} {k : Int} {X Y : World}
theorem NX.past (h : NX kx c8 kb wb cb mb b W k X) (hb : NB B0 B kx c8 kb wb cb mb b) {row : Option Nat} (hg : X.grownBy Y row) (hr : ∀ r, row = some r → B ≤ r) : NX kx c8 kb wb cb mb b W k Y := by
  have h1 := hb.hi
  have e1 : some c8 ≠ row := fun e => by have := hr _ e.symm; omega
  have e2 : some kx ≠ row := fun e => by have := hr _ e.symm; omega
  exact ⟨h.memo.past hg ⟨h1.2.2.1, h1.2.2.2.1, h1.2.2.2.2.1, h1.2.2.2.2.2.1, h1.2.2.2.2.2.2⟩ hr, hg.cell h.fn e1, hg.cell h.kc e2,
   (World.frozen?_of_block (a := ⟨kx, 0, none⟩) (hg.block kx (lt_of_cell h.kc) e2)).trans h.kf⟩
theorem NX.turn (h : NX kx c8 kb wb cb mb b W k X) (hb : NB B0 B kx c8 kb wb cb mb b) (hg : X.grownBy Y (some mb)) (hm : Memo kb wb cb mb b W Y) : NX kx c8 kb wb cb mb b W k Y := by
  have h1 := hb.ne
  have e2 : some kx ≠ some mb := fun e => h1.1 (Option.some.inj e)
  exact ⟨hm, hg.cell h.fn (fun e => h1.2.1 (Option.some.inj e)), hg.cell h.kc e2, (World.frozen?_of_block (a := ⟨kx, 0, none⟩) (hg.block kx (lt_of_cell h.kc) e2)).trans h.kf⟩
theorem NX.keptBy (h : NX kx c8 kb wb cb mb b W k X) (hk : Kept X Y) : NX kx c8 kb wb cb mb b W k Y :=
  ⟨h.memo.keptBy hk, hk.cell h.fn, hk.cell h.kc, (hk.cells.2 kx 0 (lt_of_cell h.kc)).trans h.kf⟩
theorem NX.setOther (h : NX kx c8 kb wb cb mb b W k X) (hb : NB B0 B kx c8 kb wb cb mb b) {p : Nat} (hp : B ≤ p) (u : Value) : NX kx c8 kb wb cb mb b W k (X.setCell ⟨p, 0, none⟩ u) :=
  h.past hb (grownBy_setCell' X p u) (fun r e => by cases e; exact hp)
theorem NX.setK (h : NX kx c8 kb wb cb mb b W k X) (hb : NB B0 B kx c8 kb wb cb mb b) (k' : Int) : NX kx c8 kb wb cb mb b W k' (X.setCell ⟨kx, 0, none⟩ (.int .i64 k')) := by
  have h1 := hb.ne
  exact ⟨h.memo.kept (grownBy_setCell' X kx _) (fun e => h1.2.2.2.1 (Option.some.inj e).symm) (fun e => h1.2.2.2.2.1 (Option.some.inj e).symm) (fun e => h1.2.2.2.2.2.1 (Option.some.inj e).symm) (fun e => h1.1 (Option.some.inj e).symm) (fun e => h1.2.2.2.2.2.2 (Option.some.inj e).symm),
    cell_set_block h.fn (fun e => h1.2.2.1 e.symm), cell_set_same h.kc, by rw [World.frozen?_setCell]; exact h.kf⟩
theorem Memo.isMap (h : Memo kb wb cb mb b W X) : ∃ o : Obj, X.heap[mb]? = some o ∧ o.isCells = false := by
  obtain ⟨D, ⟨es, clock, hb, _⟩, _⟩ := h.map
  exact ⟨_, hb, rfl⟩
end

section
variable {w : World} {bo bd base : Nat} {Ds : List Nat} {vb : Value} {d : S} {v : Value} {l : List Int} {X Y : World}
theorem FSt.turn {mb : Nat} (h : FSt w bo bd base Ds vb d v l X) (hg : X.grownBy Y (some mb)) (hm : ∃ o : Obj, X.heap[mb]? = some o ∧ o.isCells = false) (h0 : w.heap.size ≤ mb) (h1 : mb < base) : FSt w bo bd base Ds vb d v l Y := by
  have hr : ∀ r, some mb = some r → ∃ o : Obj, X.heap[r]? = some o ∧ o.isCells = false := fun r e => by cases e; exact hm
  exact ⟨h.kept.grown hg (fun r e => by cases e; exact h0), Nat.le_trans h.sz hg.size, cell_kept h.cv hg hr, (frozen_kept h.cv hg hr).trans h.fv, cell_kept h.cd hg hr, (frozen_kept h.cd hg hr).trans h.fd, h.own.grown hg hr,
   fun D hd => ⟨(h.ds D hd).1, (hg.block D (Array.getElem?_eq_some_iff.1 (h.ds D hd).2).1 (fun e => by have := (h.ds D hd).1; have := Option.some.inj e; omega)).trans (h.ds D hd).2⟩⟩
theorem FSt.setOther (h : FSt w bo bd base Ds vb d v l X) {p : Nat} (hw : w.heap.size ≤ p) (h1 : p < base) (h2 : bo ≠ p) (h3 : bd ≠ p) (u : Value) : FSt w bo bd base Ds vb d v l (X.setCell ⟨p, 0, none⟩ u) :=
  ⟨h.kept.setCell hw u, by simpa [World.setCell] using h.sz, cell_set_block h.cv h2, by rw [World.frozen?_setCell]; exact h.fv, cell_set_block h.cd h3, by rw [World.frozen?_setCell]; exact h.fd, h.own.setBelow h1 u,
   fun D hd => ⟨(h.ds D hd).1, heap_set_deferred (h.ds D hd).2 _ _⟩⟩
end

def NthInv (w : World) (bo bd base kx c8 kb wb cb mb b : Nat) (W : Web) (k0 : Int) (a : Act) (X : World) : Prop :=
  ∃ (j : Nat) (v : Value) (Ds : List Nat) (u0 u1 u2 u4 u5 u7 u11 u12 u13 u14 u15 u16 u17 u18 u19 u20 u21 u22 u23 u24 u25 u26 u27 u28 u29 u30 u31 u32 u33 u34 u35 u36 u37 u38 u39 u40 u41 u42 u43 u44 u45 u46 u47 u48 u49 u50 u51 u52 u53 u54 u55 u56 u57 u58 u59 u60 u61 u62 : Value), a = { tmps := #[u0, u1, u2, .pointer (some ⟨kx, 0, none⟩), u4, u5, .pointer (some ⟨b, 0, none⟩), u7, .pointer (some ⟨c8, 0, none⟩), .pointer (some ⟨bo, 0, none⟩), .pointer (some ⟨bd, 0, none⟩), u11, u12, u13, u14, u15, u16, u17, u18, u19, u20, u21, u22, u23, u24, u25, u26, u27, u28, u29, u30, u31, u32, u33, u34, u35, u36, u37, u38, u39, u40, u41, u42, u43, u44, u45, u46, u47, u48, u49, u50, u51, u52, u53, u54, u55, u56, u57, u58, u59, u60, u61, u62], defers := marks Ds } ∧
    j ≤ W.n ∧ FSt w bo bd base Ds v (setS (nthSt W k0 j).1) v (nthSt W k0 j).1 X ∧ Ds.Nodup ∧ (nthSt W k0 j).1.length = j ∧ (∀ p ∈ (nthSt W k0 j).1, 0 ≤ p ∧ p < (W.n : Int)) ∧ (nthSt W k0 j).1.Nodup ∧
    NX kx c8 kb wb cb mb b W (nthSt W k0 j).2 X ∧ 0 ≤ (nthSt W k0 j).2 ∧ (nthSt W k0 j).2 < cnt W (setS (nthSt W k0 j).1)

def NthPost (l : List Int) (err : Int) (w : World) (e : Ending) (w' : World) : Prop := ListErr l err w e w'

set_option maxHeartbeats 1600000 in
theorem Nth_ok (o : Prob) (ao bo' : Option Addr) (ca cb' : Nat) (k : Int) (w : World) (ho : IsProb w o ao bo') (he : errC o = 0) :
    Calls Try.prog 53 #[probV o ao ca bo' cb', .int .i64 k] w (ListErr (NthR o k).1 (NthR o k).2 w) := by
  have HO := Lib.hid ho
  have HE := Lib.hid he
  have hn := (errC_ok he).2
  clear ho he
  refine calls_of_wp_marks Try.func53 rfl ?_
  simp only [Try.ntmps53, List.size_toArray, List.length_cons, List.length_nil, Nat.reduceAdd, Nat.reduceSub, Array.replicate_succ, Array.replicate_zero, List.push_toArray, List.append_toArray, List.nil_append, List.cons_append]
  go_wp2_with fail
  obtain ⟨w0, e0, hk0, -, hsz0⟩ := alloc_prob w o.N o.arcs o.near ao ca bo' cb'
  rw [e0]
  clear e0
  have hck : (w0.alloc (.cells #[.int .i64 k] 3)).cell? ⟨w.heap.size + 1, 0, none⟩ = some (.int .i64 k) := by rw [hsz0]; simp [go_sem]
  have hfk : (w0.alloc (.cells #[.int .i64 k] 3)).frozen? ⟨w.heap.size + 1, 0, none⟩ = false := by rw [hsz0]; simp [go_sem]
  have hn1 : (w0.alloc (.cells #[.int .i64 k] 3)).cell? ⟨w.heap.size + 1, 1, none⟩ = none := by
    have hh := heap_alloc_new w0 (.cells #[.int .i64 k] 3)
    rw [hsz0.symm] at hh
    rw [cell_of_row _ _ _ _ _ _ hh]
    rfl
  have hk1 := hk0.alloc (.cells #[.int .i64 k] 3)
  generalize (w0.alloc (.cells #[.int .i64 k] 3)) = w1 at *
  have HK1 := Lib.hid hk1
  have HCK := Lib.hid hck
  have HFK := Lib.hid hfk
  obtain ⟨kx, hkx⟩ : ∃ kx, w.heap.size + 1 = kx := ⟨_, rfl⟩
  rw [hkx] at HCK HFK hn1 ⊢
  have HN1 := Lib.hid hn1
  have HKX : Hid (w.heap.size ≤ kx) := by show _ ≤ _; omega
  clear hk1 hk0 hsz0 hck hfk hkx hn1
  refine (counted_ok o ao bo' ca cb' w1 (HO.out.kept HK1.out) HE.out).mono ?_
  rintro e w2 ⟨b, rfl, hw2, hk2⟩
  have HC2 := Lib.hid (hk2.cell HCK.out)
  have HF2 := Lib.hid ((hk2.cells.2 _ 0 (lt_of_cell HCK.out)).trans HFK.out)
  have HK2 := Lib.hid (HK1.out.trans hk2)
  have HW2 := Lib.hid hw2
  have HKL := Lib.hid (Nat.lt_of_lt_of_le (lt_of_cell HCK.out) hk2.size)
  have HKB : Hid (kx ≠ b) := by
    show _ ≠ _
    rintro rfl
    have h1 := hw2.to 0 (by omega)
    have h2 : w2.cell? ⟨kx, 1, none⟩ = w1.cell? ⟨kx, 1, none⟩ := by
      unfold World.cell?
      rw [show w2.heap[(⟨kx, 1, none⟩ : Addr).block]? = w1.heap[(⟨kx, 1, none⟩ : Addr).block]? from hk2.below.block kx (lt_of_cell HCK.out)]
    rw [HN1.out] at h2
    rw [Nat.add_zero, h2] at h1
    cases h1
  clear hk2 hw2 HCK HFK HK1
  have HR : Hid (NthR o k = if k < 0 ∨ cnt (webOf o) 0#32 ≤ k then ([], 1) else (nthOf (webOf o) k, 0)) := by
    show _ = _
    unfold NthR
    rw [if_pos HE.out]
  generalize hW : webOf o = W at *
  clear HE HO hW
  go_wp2_with fail
  refine (counter_any b W (by omega) w2 HW2.out).mono ?_
  rintro e w3 ⟨kb, wb, cb, mb, rfl, hm, h1, h2, h3, h4, hk3⟩
  have HM3 := Lib.hid hm
  have HK3 := Lib.hid (HK2.out.trans hk3)
  have HMB : Hid (w.heap.size ≤ kb ∧ w.heap.size ≤ wb ∧ w.heap.size ≤ cb ∧ w.heap.size ≤ mb) := by have := HK2.out.size; exact ⟨by omega, by omega, by omega, by omega⟩
  have HC3 := Lib.hid (hk3.cell HC2.out)
  have HF3 := Lib.hid ((hk3.cells.2 _ 0 (lt_of_cell HC2.out)).trans HF2.out)
  have HNK : Hid (kx ≠ mb) := by have := HKL.out; show _ ≠ _; omega
  have HNE : Hid (kx ≠ kb ∧ kx ≠ wb ∧ kx ≠ cb) := by have := HKL.out; exact ⟨by omega, by omega, by omega⟩
  clear hm h1 h2 h3 h4 hk3 HW2 HK2 HC2 HF2 HKL
  unfold closureV
  have hsf := fun (a : Addr) (c : Array Value) (w : World) => run_store Try.prog w a (.func (.func 145) #[] c) .plain rfl
  go_wp2_with fail
  clear hsf
  have hc8 : (w3.alloc (.cells #[closureV kb wb cb] 121)).cell? ⟨w3.heap.size, 0, none⟩ = some (closureV kb wb cb) := by simp [go_sem]
  have hka : Kept w3 (w3.alloc (.cells #[closureV kb wb cb] 121)) := (Kept.refl w3).alloc _
  unfold closureV at hc8 hka
  have hsz3 := HK3.out.size
  generalize hw4 : (w3.alloc (.cells #[.func (.func 145) #[] #[.pointer (some ⟨kb, 0, none⟩), .pointer (some ⟨wb, 0, none⟩), .pointer (some ⟨cb, 0, none⟩)]] 121)) = w4 at *
  have HC8 := Lib.hid hc8
  have HM4 := Lib.hid (HM3.out.keptBy hka)
  have HK4 := Lib.hid (HK3.out.trans hka)
  have HC4 := Lib.hid (hka.cell HC3.out)
  have HF4 := Lib.hid ((hka.cells.2 _ 0 (lt_of_cell HC3.out)).trans HF3.out)
  have HL3 := Lib.hid HM3.out.lt
  have HLK := Lib.hid (lt_of_cell HC3.out)
  obtain ⟨c8, hc8e⟩ : ∃ c8, w3.heap.size = c8 := ⟨_, rfl⟩
  rw [hc8e] at HC8 HL3 HLK ⊢
  have H8 : Hid (w.heap.size ≤ c8) := by show _ ≤ _; omega
  clear hc8 hka hw4 hsz3 HM3 HK3 HC3 HF3 hc8e
  have hne8 : some c8 ≠ some mb := fun e => by have h6 := HL3.out; simp at e; omega
  have hnek : some kx ≠ some mb := fun e => HNK.out (Option.some.inj e)
  have hbad : Hid ((k < 0 ∨ cnt W 0#32 ≤ k) → NthR o k = ([], 1)) := fun h => HR.out.trans (if_pos h)
  by_cases hneg : k < 0
  · have hdk : decide (k < 0) = true := decide_eq_true hneg
    have HNEG := Lib.hid hneg
    clear hneg
    refine region_class (fun Z => w4.grownBy Z (some mb) ∧ Memo kb wb cb mb b W Z) 7 (by kernel_rfl) (by kernel_rfl) ⟨⟨rfl, rfl, rfl, Nat.le_refl _, fun _ _ _ => rfl⟩, HM4.out.keptBy (Kept.refl w4).drew⟩ ?_
    simp only [List.take_succ_cons, List.take_zero, List.drop_succ_cons, List.drop_zero]
    refine wpQuiet_yield (.int .i64 k) (by rfl) (fun Z hZ => ?_) ?_
    · have hc := hZ.1.cell (a := ⟨kx, 0, none⟩) (v := .int .i64 k) HC4.out hnek
      go_simp
    simp only [Act.put, List.setIfInBounds_toArray, List.set_cons_zero, List.set_cons_succ]
    refine wpQuiet_yield (.bool true) (by rfl) (fun Z hZ => ?_) ?_
    · go_simp
    simp only [Act.put, List.setIfInBounds_toArray, List.set_cons_zero, List.set_cons_succ]
    refine wpQuiet_yield (.bool true) (by rfl) (fun Z hZ => ?_) ?_
    · go_simp
    simp only [Act.put, List.setIfInBounds_toArray, List.set_cons_zero, List.set_cons_succ]
    refine wpQuiet_skip (by rfl) ?_
    simp only [Act.put, List.setIfInBounds_toArray, List.set_cons_zero, List.set_cons_succ]
    refine wpQuiet_skip (by rfl) ?_
    simp only [Act.put, List.setIfInBounds_toArray, List.set_cons_zero, List.set_cons_succ]
    refine wpQuiet_skip (by rfl) ?_
    simp only [Act.put, List.setIfInBounds_toArray, List.set_cons_zero, List.set_cons_succ]
    refine wpQuiet_skip (by rfl) ?_
    refine wpQuiet_nil ?_
    rintro Z ⟨hz1, hz2⟩
    have HZ1 := Lib.hid hz1
    clear hz1 hz2
    go_wp2
    refine leaves_marks (B := w.heap.size) [] _ (fun D hD => by cases hD) List.nodup_nil (fun w' hs => ⟨_, results_tmp2 rfl _ _ _, ?_⟩)
    have e : NthR o k = ([], 1) := hbad.out (.inl HNEG.out)
    rw [e]
    exact ⟨_, rfl, NewI.nil _ _, hs.kept (HK4.out.grown HZ1.out (fun r e => by cases e; exact HMB.out.2.2.2)) (Nat.le_refl _)⟩
  · have hdk : decide (k < 0) = false := decide_eq_false hneg
    have HNEG := Lib.hid hneg
    clear hneg
    refine region_class (fun Z => w4.grownBy Z (some mb) ∧ Memo kb wb cb mb b W Z) 7 (by kernel_rfl) (by kernel_rfl) ⟨⟨rfl, rfl, rfl, Nat.le_refl _, fun _ _ _ => rfl⟩, HM4.out.keptBy (Kept.refl w4).drew⟩ ?_
    simp only [List.take_succ_cons, List.take_zero, List.drop_succ_cons, List.drop_zero]
    refine wpQuiet_yield (.int .i64 k) (by rfl) (fun Z hZ => ?_) ?_
    · have hc := hZ.1.cell (a := ⟨kx, 0, none⟩) (v := .int .i64 k) HC4.out hnek
      go_simp
    simp only [Act.put, List.setIfInBounds_toArray, List.set_cons_zero, List.set_cons_succ]
    refine wpQuiet_yield (.bool false) (by rfl) (fun Z hZ => ?_) ?_
    · go_simp
    simp only [Act.put, List.setIfInBounds_toArray, List.set_cons_zero, List.set_cons_succ]
    refine wpQuiet_yield (.bool false) (by rfl) (fun Z hZ => ?_) ?_
    · go_simp
    simp only [Act.put, List.setIfInBounds_toArray, List.set_cons_zero, List.set_cons_succ]
    refine wpQuiet_yield (.int .i64 k) (by rfl) (fun Z hZ => ?_) ?_
    · have hc := hZ.1.cell (a := ⟨kx, 0, none⟩) (v := .int .i64 k) HC4.out hnek
      go_simp
    simp only [Act.put, List.setIfInBounds_toArray, List.set_cons_zero, List.set_cons_succ]
    refine wpQuiet_yield (.func (.func 145) #[] #[.pointer (some ⟨kb, 0, none⟩), .pointer (some ⟨wb, 0, none⟩), .pointer (some ⟨cb, 0, none⟩)]) (by rfl) (fun Z hZ => ?_) ?_
    · have hc := hZ.1.cell (a := ⟨c8, 0, none⟩) HC8.out hne8
      go_simp
    simp only [Act.put, List.setIfInBounds_toArray, List.set_cons_zero, List.set_cons_succ]
    refine wpQuiet_yield (.int .i64 (cnt W 0#32)) (by rfl) (fun Z hZ => ?_) ?_
    · go_simp
      exact (count_any kb wb cb mb b W (by omega) (rest W 0#32 + 1) 0#32 Z (Nat.lt_succ_self _) hZ.2).mono fun e Z' h => ⟨h.1, hZ.1.trans h.2.1, h.2.2⟩
    simp only [Act.put, List.setIfInBounds_toArray, List.set_cons_zero, List.set_cons_succ]
    refine wpQuiet_yield (.bool (decide (k ≥ cnt W 0#32))) (by rfl) (fun Z hZ => ?_) ?_
    · go_simp
    refine wpQuiet_nil ?_
    rintro Z ⟨hz1, hz2⟩
    by_cases hge : k ≥ cnt W 0#32
    · have hdg : decide (k ≥ cnt W 0#32) = true := decide_eq_true hge
      rw [hdg]
      have HGE := Lib.hid hge
      have HZ1 := Lib.hid hz1
      clear hz1 hz2 hge hdg
      go_wp2
      refine leaves_marks (B := w.heap.size) [] _ (fun D hD => by cases hD) List.nodup_nil (fun w' hs => ⟨_, results_tmp2 rfl _ _ _, ?_⟩)
      have e : NthR o k = ([], 1) := hbad.out (.inr HGE.out)
      rw [e]
      exact ⟨_, rfl, NewI.nil _ _, hs.kept (HK4.out.grown HZ1.out (fun r e => by cases e; exact HMB.out.2.2.2)) (Nat.le_refl _)⟩
    · have hdg : decide (k ≥ cnt W 0#32) = false := decide_eq_false hge
      rw [hdg]
      have HR2 : Hid (NthR o k = (nthOf W k, 0)) := HR.out.trans (if_neg (fun h => h.elim HNEG.out hge))
      have HGE := Lib.hid hge
      have HZ1 := Lib.hid hz1
      have HZ2 := Lib.hid hz2
      clear hz1 hz2 hge hdg
      go_wp2
      have HKZ := Lib.hid (HK4.out.grown HZ1.out (fun r e => by cases e; exact HMB.out.2.2.2))
      have HNXZ : Hid (NX kx c8 kb wb cb mb b W k Z) := by
        have h1 := HL3.out
        have h2 := HNE.out
        have h3 := HLK.out
        exact ⟨HZ2.out, HZ1.out.cell HC8.out hne8, HZ1.out.cell HC4.out hnek, (World.frozen?_of_block (a := ⟨kx, 0, none⟩) (HZ1.out.block kx (lt_of_cell HC4.out) hnek)).trans HF4.out⟩
      have HSZZ : Hid (c8 < Z.heap.size) := Nat.lt_of_lt_of_le (lt_of_cell HC8.out) HZ1.out.size
      have hst0 : FSt w Z.heap.size (Z.heap.size + 1) (Z.heap.size + 2) [] (.slice none 0 0) (setS []) (.slice none 0 0) [] ((Z.alloc (.cells #[.slice none 0 0] 31)).alloc (.cells #[.int .u32 0] 93)) :=
        ⟨(HKZ.out.alloc _).alloc _, by simp, by simp [go_sem], by simp [go_sem], by simp [go_sem]; rfl, by simp [go_sem], OwnI.nil _ _, fun D h => by cases h⟩
      have hx0 := HNXZ.out.keptBy (((Kept.refl Z).alloc (.cells #[.slice none 0 0] 31)).alloc (.cells #[.int .u32 0] 93))
      have hsz := HKZ.out.size
      generalize ((Z.alloc (.cells #[.slice none 0 0] 31)).alloc (.cells #[.int .u32 0] 93)) = Z0 at *
      obtain ⟨bo, hbo⟩ : ∃ bo, Z.heap.size = bo := ⟨_, rfl⟩
      obtain ⟨bd, hbd⟩ : ∃ bd, Z.heap.size + 1 = bd := ⟨_, rfl⟩
      obtain ⟨base, hbase⟩ : ∃ base, Z.heap.size + 2 = base := ⟨_, rfl⟩
      rw [hbase, hbd, hbo] at hst0
      rw [hbd, hbo]
      have HB : Hid (w.heap.size ≤ bo ∧ bo < base ∧ bd < base ∧ bo ≠ bd ∧ w.heap.size ≤ bd ∧ kx < bo ∧ c8 < bo) := by
        have h1 := HSZZ.out
        have h2 := HLK.out
        exact ⟨by omega, by omega, by omega, by omega, by omega, by omega, by omega⟩
      have HNB : Hid (NB w.heap.size bo kx c8 kb wb cb mb b) := by
        have h1 := HL3.out
        have h2 := HNE.out
        have h3 := HLK.out
        have h4 := HB.out
        exact ⟨⟨HKX.out, HMB.out.2.2.2⟩, ⟨by omega, by omega, by omega, by omega, by omega, by omega, by omega⟩, ⟨HNK.out, by omega, by omega, by omega, by omega, by omega, HKB.out⟩⟩
      have HBD : Hid (bo < bd) := by show _ < _; omega
      clear hbo hbd hbase hsz HKX HR HMB HNK HM4 HK4 HC4 HF4 HLK HL3 HC8 H8 hne8 hnek hbad hdk HZ1 HZ2 HKZ HNXZ HSZZ HNE HKB HN1
      have HST0 := Lib.hid hst0
      have HX0 := Lib.hid hx0
      clear hst0 hx0
      refine wp_loop (NthInv w bo bd base kx c8 kb wb cb mb b W k) (fun _ X => firstLeft bo W.n X) ⟨0, .slice none 0 0, [], _, _, _, _, _, _, _, _, _, _, _, _, _, _, _, _, _, _, _, _, _, _, _, _, _, _, _, _, _, _, _, _, _, _, _, _, _, _, _, _, _, _, _, _, _, _, _, _, _, _, _, _, _, _, _, _, _, _, rfl, Nat.zero_le _, HST0.out, List.nodup_nil, rfl, by simp [nthSt], by simp [nthSt], HX0.out, HNEG.out, HGE.out⟩ ?_
      rintro a X ⟨j, v, Ds, u0, u1, u2, u4, u5, u7, u11, u12, u13, u14, u15, u16, u17, u18, u19, u20, u21, u22, u23, u24, u25, u26, u27, u28, u29, u30, u31, u32, u33, u34, u35, u36, u37, u38, u39, u40, u41, u42, u43, u44, u45, u46, u47, u48, u49, u50, u51, u52, u53, u54, u55, u56, u57, u58, u59, u60, u61, u62, rfl, hj, hst, hnd, hlen, hin, hdup, hx, hkk0, hkk1⟩
      clear HST0 HX0 HNEG HGE
      have HNEXT : Hid (nthSt W k (j + 1) = nthStep W (nthSt W k j)) := rfl
      have HFIN : Hid (j = W.n → (nthSt W k j).1 = nthOf W k) := fun e => by rw [e]; rfl
      have HEQ : Hid (nthSt W k j = ((nthSt W k j).1, (nthSt W k j).2)) := rfl
      generalize hl : (nthSt W k j).1 = l at *
      generalize hkk : (nthSt W k j).2 = kk at *
      have HST := Lib.hid hst
      have HND := Lib.hid hnd
      have HLEN := Lib.hid hlen
      have HIN := Lib.hid hin
      have HDUP := Lib.hid hdup
      have HX := Lib.hid hx
      have HK0 := Lib.hid hkk0
      have HK1 := Lib.hid hkk1
      obtain ⟨ao, c, hv, hc, _⟩ := hst.own.slice
      rw [hlen] at hv hc
      have hcv := hst.cv
      have hcd := hst.cd
      have hwn := hx.memo.at_.n
      subst hv
      clear hst hnd hlen hin hdup hx hl hkk hkk0 hkk1
      by_cases hlt : j < W.n
      · go_wp2
        refine region_tail 6 (by kernel_rfl) (by kernel_rfl) ?_
        simp only [List.take_succ_cons, List.take_zero, List.drop_succ_cons, List.drop_zero]
        repeat still_step
        refine wpStill_nil ?_
        go_wp2_with fail
        refine (ready_any b W (setS l) _ (HX.out.memo.at_.kept (Kept.refl X).drew)).mono ?_
        rintro e X1 ⟨c1, c2, rfl, hc1, hc2, hstat, hk1⟩
        have HS1 := Lib.hid hstat
        have HST1 := Lib.hid ((HST.out.keptBy (Kept.refl X).drew).keptBy hk1)
        have HX1 := Lib.hid ((HX.out.keptBy (Kept.refl X).drew).keptBy hk1)
        have HC : Hid (bo < c1 ∧ bo < c2 ∧ bd < c1 ∧ bd < c2 ∧ (∀ g, (Value.slice ao j c).ownBlock = some g → g < c1 ∧ g < c2) ∧ mb < c1 ∧ mb < c2 ∧ kx < c1 ∧ kx < c2 ∧ b < c1 ∧ b < c2) := by
          have h1 := lt_of_cell HST.out.cv
          have h2 := lt_of_cell HST.out.cd
          have h3 : X.drew.heap.size = X.heap.size := rfl
          have h4 := HNB.out.hi
          rw [h3] at hc1 hc2
          exact ⟨by omega, by omega, by omega, by omega, fun g hg => by have := (HST.out.own.lt g hg).2; omega, by omega, by omega, by omega, by omega, by omega, by omega⟩
        have HBX : Hid (bo < X1.heap.size) := lt_of_cell HST1.out.cv
        clear hstat hk1 hcv hcd hwn hc1 hc2
        go_wp2_with fail
        refine range_ready (c1 := c1) (c2 := c2) (b := b) (W := W) (d := setS l) rfl HS1.out (by omega) rfl
          (fun pre Y => FSt w bo bd base Ds (.slice ao j c) (setS l) (.slice ao j c) l Y ∧ ∃ k' : Int, NX kx c8 kb wb cb mb b W k' Y ∧ 0 ≤ k' ∧ k' ≤ kk ∧ ∀ suf, nthScan W (setS l) (pre.map Subtype.val ++ suf) kk = nthScan W (setS l) suf k')
          (fun cd pre Y => cd = .exit 2 ∧ ∃ (x : Rdy W (setS l)) (v' : Value) (k' : Int), (∀ suf, nthScan W (setS l) (pre.map Subtype.val ++ suf) kk = (some x.val, k')) ∧ 0 ≤ k' ∧ k' < cnt W (setS l ||| oneS x.val) ∧
            FSt w bo bd base Ds v' (setS (l ++ [(x.val : Int)])) v' (l ++ [(x.val : Int)]) Y ∧ NX kx c8 kb wb cb mb b W k' Y)
          ?hI ?hIx ⟨HST1.out, kk, HX1.out, HK0.out, Int.le_refl _, fun suf => rfl⟩
          (fun x => { tmps := #[u0, u1, u2, .pointer (some ⟨kx, 0, none⟩), u4, u5, .pointer (some ⟨b, 0, none⟩), u7, .pointer (some ⟨c8, 0, none⟩), .pointer (some ⟨bo, 0, none⟩), .pointer (some ⟨bd, 0, none⟩), .int .i64 x.val, u12, u13, u14, u15, u16, u17, u18, u19, u20, u21, u22, u23, u24, u25, u26, u27, u28, u29, u30, .slice ao j c, .int .i64 j, .pointer (some ⟨b, 0, none⟩), .pointer (some ⟨b, 0, none⟩), .pointer (some ⟨b, 0, none⟩), .int .i64 W.n, .bool true, .pointer (some ⟨b, 0, none⟩), .int .u32 (sI (setS l)), .func (.func 146) #[] #[.pointer (some ⟨c1, 0, none⟩), .pointer (some ⟨c2, 0, none⟩)], .int .i64 x.val, u42, u43, u44, u45, u46, u47, u48, u49, u50, u51, u52, u53, u54, u55, u56, u57, u58, u59, u60, u61, u62], defers := [] }) ?assign ?body ?done ?stop
        case hI =>
          rintro s A B row ⟨h1, k', h2, h3⟩ hg hr
          exact ⟨h1.grown hg hr HST1.out.kept.size (fun D hD => (Array.getElem?_eq_some_iff.1 (HST1.out.ds D hD).2).1), k', h2.past HNB.out hg (fun r e => by have := (hr r e).1; have := HBX.out; omega), h3⟩
        case hIx =>
          rintro cd s A B row ⟨e, x, v', k', h1, h2, h3, h4, h5⟩ hg hr
          exact ⟨e, x, v', k', h1, h2, h3, h4.grown hg hr HST1.out.kept.size (fun D hD => (Array.getElem?_eq_some_iff.1 (HST1.out.ds D hD).2).1), h5.past HNB.out hg (fun r e => by have := (hr r e).1; have := HBX.out; omega)⟩
        case assign =>
          intro lb x Y K hK
          gi_wp2
          exact hK
        case done =>
          rintro D xs Y hD hxs ⟨_, k', _, h2, h3, h4⟩ _
          have h := h4 []
          rw [hxs, List.append_nil] at h
          have hw := setS_not_whole (W := W) (by omega) HIN.out (by rw [HLEN.out]; exact hlt)
          have hcb := (cnt_bound hn (rest W (setS l)) (setS l) (Nat.le_refl _)).2.2 hw
          obtain ⟨p, k2, h5, _⟩ := nthScan_some (W := W) (d := setS l) (readyL W (setS l)) kk HK0.out (by rw [← hcb]; exact HK1.out)
          rw [h5] at h
          simp [nthScan] at h
        case stop =>
          rintro D cd pre Y hD hpre ⟨rfl, x, v', k', hs1, hs2, hs3, hst2, hx2⟩ hdef
          have hx := mem_readyL.1 x.2
          have hxn : (x.val : Int) ∉ l := by
            have h := hx.2
            unfold readyB at h
            rw [hasS_setS _ (fun p hp => by have := HIN.out p hp; omega)] at h
            simp at h
            exact h.1
          have hnext : nthSt W k (j + 1) = (l ++ [(x.val : Int)], k') := by
            obtain ⟨r, hr⟩ := hpre
            have hs1' := hs1 r
            rw [hr] at hs1'
            rw [HNEXT.out, HEQ.out]
            unfold nthStep
            simp only
            rw [hs1']
          have HXX := Lib.hid hx
          have HXN := Lib.hid hxn
          have HNX := Lib.hid hnext
          have HST2 := Lib.hid hst2
          have HX2 := Lib.hid hx2
          have HS2 := Lib.hid hs2
          have HS3 := Lib.hid hs3
          have HDEF := Lib.hid hdef
          have HPD := Lib.hid hD
          clear hx hxn hnext hst2 hdef hD hs1 hs2 hs3 hx2
          go_wp2
          have e1 : (nthSt W k (j + 1)).1 = l ++ [(x.val : Int)] := by rw [HNX.out]
          have e2 : (nthSt W k (j + 1)).2 = k' := by rw [HNX.out]
          have hlen2 : (l ++ [(x.val : Int)]).length = j + 1 := by rw [List.length_append, HLEN.out]; rfl
          refine ⟨⟨j + 1, v', D :: Ds, _, _, _, _, _, _, _, _, _, _, _, _, _, _, _, _, _, _, _, _, _, _, _, _, _, _, _, _, _, _, _, _, _, _, _, _, _, _, _, _, _, _, _, _, _, _, _, _, _, _, _, _, _, _, _, _, _, _, rfl, by omega, ?_, ?_, by rw [e1]; exact hlen2, ?_, ?_, ?_, ?_, ?_⟩, ?_⟩
          · rw [e1]
            exact ⟨HST2.out.kept, HST2.out.sz, HST2.out.cv, HST2.out.fv, HST2.out.cd, HST2.out.fd, HST2.out.own, fun D' hD' => by
              rcases List.mem_cons.1 hD' with rfl | h
              · exact ⟨Nat.le_trans HST1.out.sz HPD.out, HDEF.out⟩
              · exact HST2.out.ds D' h⟩
          · refine List.nodup_cons.2 ⟨fun h => ?_, HND.out⟩
            have := (Array.getElem?_eq_some_iff.1 (HST1.out.ds D h).2).1
            have := HPD.out
            omega
          · rw [e1]
            intro p hp
            rcases List.mem_append.1 hp with h | h
            · exact HIN.out p h
            · simp at h; subst h; have := HXX.out.1; omega
          · rw [e1, List.nodup_append]
            exact ⟨HDUP.out, by simp, fun a ha b hb e => by simp at hb; subst hb; subst e; exact HXN.out ha⟩
          · rw [e2]; exact HX2.out
          · rw [e2]; exact HS2.out
          · rw [e1, e2, setS_snoc, Int.toNat_natCast]; exact HS3.out
          · obtain ⟨ao', c', hv', _, _⟩ := HST2.out.own.slice
            have e1 : firstLeft bo W.n Y = W.n - (j + 1) := by
              unfold firstLeft
              rw [HST2.out.cv, hv']
              simp [HLEN.out]
            have e2 : firstLeft bo W.n X = W.n - j := by
              unfold firstLeft
              rw [HST.out.cv]
            rw [e1, e2]
            omega
        case body =>
          rintro lb pre x Y ⟨hst, k', hx, hk0, hkle, hsuf⟩ hstat
          have HS := Lib.hid hst
          have HXY := Lib.hid hx
          have HT := Lib.hid hstat
          have HKA := Lib.hid hk0
          have HKB := Lib.hid hkle
          have HSUF := Lib.hid hsuf
          have hcb := cnt_bound hn _ (setS l ||| oneS x.val) (Nat.le_refl _)
          have HCB := Lib.hid hcb
          have hx32 : x.val < 32 := by have := (mem_readyL.1 x.2).1; omega
          have HX32 := Lib.hid hx32
          have hnb := HNB.out.ne
          have hhi := HNB.out.hi
          have hbb := HB.out
          have hne8 : some c8 ≠ some mb := fun e => hnb.2.1 (Option.some.inj e)
          have hned : some bd ≠ some mb := fun e => by have := Option.some.inj e; have := HBD.out; omega
          clear hst hx hk0 hkle hsuf hstat hcb
          gi_wp2_with fail
          refine regionIn_class (fun Z => Y.grownBy Z (some mb) ∧ Memo kb wb cb mb b W Z) 6 (by kernel_rfl) (by kernel_rfl) (by kernel_rfl) ⟨⟨rfl, rfl, rfl, Nat.le_refl _, fun _ _ _ => rfl⟩, HXY.out.memo.keptBy (Kept.refl Y).drew⟩ ?_
          simp only [List.take_succ_cons, List.take_zero, List.drop_succ_cons, List.drop_zero]
          refine wpQuiet_yield (.func (.func 145) #[] #[.pointer (some ⟨kb, 0, none⟩), .pointer (some ⟨wb, 0, none⟩), .pointer (some ⟨cb, 0, none⟩)]) (by rfl) (fun Z hZ => ?_) ?_
          · have hc := hZ.1.cell (a := ⟨c8, 0, none⟩) HXY.out.fn hne8
            unfold closureV at hc
            go_simp
          simp only [Act.put, List.setIfInBounds_toArray, List.set_cons_zero, List.set_cons_succ]
          refine wpQuiet_yield (.int .u32 (sI (setS l))) (by rfl) (fun Z hZ => ?_) ?_
          · have hc := hZ.1.cell (a := ⟨bd, 0, none⟩) HS.out.cd hned
            go_simp
          simp only [Act.put, List.setIfInBounds_toArray, List.set_cons_zero, List.set_cons_succ]
          refine wpQuiet_yield (.int .i64 x.val) (by rfl) (fun Z hZ => ?_) ?_
          · go_simp
          simp only [Act.put, List.setIfInBounds_toArray, List.set_cons_zero, List.set_cons_succ]
          refine wpQuiet_yield (.int .u32 (sI (oneS x.val))) (by rfl) (fun Z hZ => ?_) ?_
          · go_simp
            exact (one_any x.val Z hx32).mono fun e Z' h => ⟨h.1, h.2 ▸ hZ⟩
          simp only [Act.put, List.setIfInBounds_toArray, List.set_cons_zero, List.set_cons_succ]
          refine wpQuiet_yield (.int .u32 (sI (setS l ||| oneS x.val))) (by rfl) (fun Z hZ => ?_) ?_
          · go_simp
          simp only [Act.put, List.setIfInBounds_toArray, List.set_cons_zero, List.set_cons_succ]
          refine wpQuiet_yield (.int .i64 (cnt W (setS l ||| oneS x.val))) (by rfl) (fun Z hZ => ?_) ?_
          · go_simp
            exact (count_any kb wb cb mb b W (by omega) _ _ Z (Nat.lt_succ_self _) hZ.2).mono fun e Z' h => ⟨h.1, hZ.1.trans h.2.1, h.2.2⟩
          simp only [Act.put, List.setIfInBounds_toArray, List.set_cons_zero, List.set_cons_succ]
          refine wpQuiet_nil ?_
          rintro Z ⟨hz1, hz2⟩
          have HZ1 := Lib.hid hz1
          have HSZ := Lib.hid (HS.out.turn hz1 HXY.out.memo.isMap HNB.out.lo.2 (by omega))
          have HXZ := Lib.hid (HXY.out.turn HNB.out hz1 hz2)
          have HTZ : Hid (Stat c1 c2 b W (setS l) Z) := HT.out.grownNe hz1 (fun e => by have := Option.some.inj e; have := HC.out; omega) (fun e => by have := Option.some.inj e; have := HC.out; omega) (fun e => HXY.out.memo.ne.2.2.2 (Option.some.inj e))
          have HKY : Hid (KeepsFrom X1.heap.size Y Z) := KeepsFrom.of_grownBy hz1 (fun r e => by cases e; have := HBX.out; omega)
          clear hz1 hz2
          have hkc := HXZ.out.kc
          have hkf := HXZ.out.kf
          by_cases hkl : k' < cnt W (setS l ||| oneS x.val)
          · have hdec : decide (k' < cnt W (setS l ||| oneS x.val)) = true := decide_eq_true hkl
            have HSC : Hid (∀ suf, nthScan W (setS l) ((pre ++ [x]).map Subtype.val ++ suf) kk = (some x.val, k')) := fun suf => by
              rw [List.map_append, List.append_assoc, HSUF.out]
              show nthScan W (setS l) (x.val :: suf) k' = _
              unfold nthScan
              rw [if_pos hkl]
            have HKL := Lib.hid hkl
            have hcv := HSZ.out.cv
            have hbo := lt_of_cell hcv
            clear hkl
            go_wp2
            unfold onlyN
            gi_wp2_with (gi_at_builtin; refine append_intIn _ rfl _ _ rfl base (.slice ao j c) l rfl (HSZ.out.own.kept ((Kept.refl _).alloc _)) Z.heap.size 1 x.val rfl (by simp [go_sem]) (by rw [HLEN.out]; omega) (Nat.le_trans HSZ.out.sz (by simp)) ?_; intro g' c' w1 hown1 hg1; have HG1 := Lib.hid hg1; have HF1 := Lib.hid ((HSZ.out.keptBy ((Kept.refl Z).alloc _)).append hg1 hown1 (Nat.le_of_lt (Nat.lt_of_le_of_lt HB.out.1 HB.out.2.1)) HB.out.2.1 HB.out.2.2.1); have HXA := Lib.hid ((HXZ.out.keptBy ((Kept.refl Z).alloc _)).past HNB.out hg1 (fun r e => Nat.le_of_lt (Nat.lt_of_lt_of_le HB.out.2.1 ((HSZ.out.own.kept ((Kept.refl Z).alloc (.cells #[.int .i64 x.val] 3))).lt r e).1))); clear hown1 hg1 hcv hbo; have hcv1 := HF1.out.cv; have hfv1 := HF1.out.fv)
            clear hcv1 hfv1
            have HF2 := Lib.hid (HF1.out.setOut HB.out.1 HB.out.2.1 HB.out.2.2.2.1 (.slice (some ⟨g', 0, none⟩) (l.length + 1) c'))
            have HX2 := Lib.hid (HXA.out.setOther HNB.out (Nat.le_refl bo) (.slice (some ⟨g', 0, none⟩) (l.length + 1) c'))
            have HKF : Hid (KeepsOthers Z (w1.setCell ⟨bo, 0, none⟩ (.slice (some ⟨g', 0, none⟩) (l.length + 1) c'))) :=
              ((KeepsOthers.alloc Z _).trans (KeepsOthers.of_grownBy HG1.out (own_row_cells (HSZ.out.own.kept ((Kept.refl Z).alloc _))))).trans (KeepsOthers.setCell _ _ _)
            generalize (w1.setCell ⟨bo, 0, none⟩ (.slice (some ⟨g', 0, none⟩) (l.length + 1) c')) = w2 at *
            have hcd2 := HF2.out.cd
            have hfd2 := HF2.out.fd
            refine regionIn_tail 4 (by kernel_rfl) (by kernel_rfl) (by kernel_rfl) ?_
            simp only [List.take_succ_cons, List.take_zero, List.drop_succ_cons, List.drop_zero]
            repeat still_step
            still_call Calls_still (one_any _ _ HX32.out)
            repeat still_step
            refine wpStill_nil ?_
            go_wp2
            unfold onlyN
            gi_wp2
            refine ⟨HKY.out.trans (((HKF.out.trans (KeepsOthers.setCell _ _ _)).trans (KeepsOthers.drew _)).from _), rfl, x, (.slice (some ⟨g', 0, none⟩) (l.length + 1) c'), k', HSC.out, HKA.out, HKL.out, ?_, ?_⟩
            · rw [setS_snoc, Int.toNat_natCast]
              exact (HF2.out.setDone HB.out.2.2.2.2.1 HB.out.2.2.1 HB.out.2.2.2.1 _).keptBy (Kept.refl _).drew
            · exact (HX2.out.setOther HNB.out (Nat.le_of_lt HBD.out) _).keptBy (Kept.refl _).drew
          · have hdec : decide (k' < cnt W (setS l ||| oneS x.val)) = false := decide_eq_false hkl
            have HKL := Lib.hid hkl
            clear hkl
            go_wp2
            unfold onlyN
            gi_wp2
            have hkb : kk < 9223372036854775807 := by
              have h1 := (cnt_bound hn _ (setS l) (Nat.le_refl _)).2.1
              have h2 : fct (rest W (setS l)) ≤ 479001600 := fct_mono (b := 12) (by have := rest_le W (setS l); omega)
              have := HK1.out
              omega
            have hle := HKB.out
            have hcb0 := HCB.out.1
            have hkl' := HKL.out
            rw [IntWalk.wrap64_in _ (by omega)]
            refine ⟨HKY.out.trans ((KeepsOthers.setCell _ _ _).from _), HTZ.out.setOther (by have := HC.out; omega) (by have := HC.out; omega) (by omega) _, HSZ.out.setOther HNB.out.lo.1 (by omega) (by omega) (by have := HBD.out; omega) _, _, HXZ.out.setK HNB.out _, by omega, by omega, fun suf => ?_⟩
            rw [List.map_append, List.append_assoc, HSUF.out]
            show nthScan W (setS l) (x.val :: suf) k' = _
            conv => lhs; unfold nthScan
            rw [if_neg (by omega)]
      · have ek : j = W.n := by omega
        have HEK := Lib.hid ek
        clear ek
        go_wp2
        refine region_tail 6 (by kernel_rfl) (by kernel_rfl) ?_
        simp only [List.take_succ_cons, List.take_zero, List.drop_succ_cons, List.drop_zero]
        repeat still_step
        refine wpStill_nil ?_
        go_wp2
        refine leaves_marks (B := base) Ds X.drew (fun D hD => HST.out.ds D hD) HND.out (fun w' hs => ⟨_, results_tmp2 rfl _ _ _, ?_⟩)
        rw [HR2.out]
        refine ⟨.slice ao j c, rfl, ?_, ?_⟩
        · have h := ((HST.out.own.kept (Kept.refl X).drew).shuts hs).base (Nat.le_of_lt (Nat.lt_of_le_of_lt HB.out.1 HB.out.2.1))
          rw [← HFIN.out HEK.out]
          exact h.new
        · exact hs.kept (HST.out.kept.trans (Kept.refl X).drew) (Nat.le_of_lt (Nat.lt_of_le_of_lt HB.out.1 HB.out.2.1))

set_option maxHeartbeats 400000 in
theorem Nth_any (o : Prob) (ao bo : Option Addr) (ca cb : Nat) (k : Int) (w : World) (ho : IsProb w o ao bo) :
    Calls Try.prog 53 #[probV o ao ca bo cb, .int .i64 k] w (ListErr (NthR o k).1 (NthR o k).2 w) := by
  by_cases h : errC o = 0
  · exact Nth_ok o ao bo ca cb k w ho h
  have HO := Lib.hid ho
  clear ho
  have hr : NthR o k = ([], errC o) := by unfold NthR; rw [if_neg h]
  rw [hr]
  have H := Lib.hid h
  have hb : (errC o != 0) = true := by simp [h]
  clear hr h
  refine calls_of_wp_marks Try.func53 rfl ?_
  simp only [Try.ntmps53, List.size_toArray, List.length_cons, List.length_nil, Nat.reduceAdd, Nat.reduceSub, Array.replicate_succ, Array.replicate_zero, List.push_toArray, List.append_toArray, List.nil_append, List.cons_append]
  go_wp2_with fail
  obtain ⟨w0, e0, hk0, -, -⟩ := alloc_prob w o.N o.arcs o.near ao ca bo cb
  rw [e0]
  clear e0
  have HK1 := Lib.hid (hk0.alloc (.cells #[.int .i64 k] 3))
  clear hk0
  generalize (w0.alloc (.cells #[.int .i64 k] 3)) = w1 at *
  refine (counted_bad o ao bo ca cb w1 (HO.out.kept HK1.out) H.out).mono ?_
  rintro e w2 ⟨rfl, hk2⟩
  have HK2 := Lib.hid (HK1.out.trans hk2)
  clear hk2
  go_wp2
  refine leaves_marks (B := w.heap.size) [] _ (fun D hD => by cases hD) List.nodup_nil (fun w' hs => ⟨_, results_tmp2 rfl _ _ _, ?_⟩)
  exact ⟨_, rfl, NewI.nil _ _, hs.kept HK2.out (Nat.le_refl _)⟩

end Go.Proofs.Yteljjkghjbofnaa
