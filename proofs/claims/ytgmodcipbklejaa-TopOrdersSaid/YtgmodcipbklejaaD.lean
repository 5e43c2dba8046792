/- kinds, shaped, formed. -/
import Derived.Test.YtgmodcipbklejaaC
import Derived.Maps.OwnSet
import Derived.Maps.AppendAt
import Derived.WalkMore
import Derived.Deep.CutBlock
import Derived.Deep.DeepCutAuto
import Derived.Deep.LoopGhost
import Derived.Deep.RegionHeld3
import Derived.Deep.DrawnRows
set_option maxRecDepth 100000
namespace Go.Proofs.Ytgmodcipbklejaa
open Go Go.Proofs Go.RowKit
open Go.Maps (Keyed)
attribute [local go_sem] Oper.semAt_some

theorem wpList_insert_own {H : Type} {P : Program} (w : World) {ops : Array Oper} {rest : List Oper} {o : Oper} {a : Act} {Q : Exit → Act → World → Prop}
    (hg : o.guard = none) (m x v : Operand) (t : TypeId) (hop : o.op = Op.insert t m x v)
    (k e : TypeId) (K : Keyed P k) (ht : P.underlying t = some (.map k e)) (R : Value → Option (DataW H × List MemPlace)) (b n : Nat) (D : DataW H)
    (hm : a.eval m = .map (some b)) (hown : w.ownsMap P k R b n D) (hn : n < maxLen) (key val : Value) (kl : Lit) (hx : a.eval x = key) (hv : a.eval v = val) (hkey : keyOf P k key = some kl)
    (d : DataW H) (ps : List MemPlace) (hval : R val = some (d, ps))
    (hK : ∀ w', w'.ownsMap P k R b (n + 1) (D.put kl d) → w.grownBy w' (some b) → wpList P ops Q rest (a.put o.dst undef) w') :
    wpList P ops Q (o :: rest) a w := by
  refine wpList_plain hg fun K' hK' => ?_
  obtain ⟨w', hrun, r1, r2⟩ := hown.update K ht hn hkey hval
  unfold Oper.wp
  simp [execOp, hop, hm, hx, hv, hrun, Result.andThen]
  exact hK' _ _ (hK w' r1 r2)

/-- How an element of a map is read: as itself. -/
def rawE (v : Value) : Option (DataW Value × List MemPlace) := some (.held v, [])
theorem rawE_inv {v x : Value} {ps : List MemPlace} (h : rawE v = some (.held x, ps)) : v = x := by
  unfold rawE at h
  simp at h
  exact h.1
theorem keyed5 : Keyed Try.prog 5 := Maps.int_keyed Try.underlying5
theorem keyed3 : Keyed Try.prog 3 := Maps.int_keyed Try.underlying3
/-- The four kinds. -/
def kindD (s1 s2 s3 s4 : ByteArray) : DataW Value :=
  ((((DataW.map []).put (.int .u8 1) (.held (.agg #[.string s1, .func (.func 82) #[] #[], .func (.func 83) #[] #[]]))).put (.int .u8 2) (.held (.agg #[.string s2, .func (.func 82) #[] #[], .func (.func 83) #[] #[]]))).put (.int .u8 3)
    (.held (.agg #[.string s3, .func (.func 82) #[] #[], .func (.func 83) #[] #[]]))).put (.int .u8 4) (.held (.agg #[.string s4, .func (.func 84) #[] #[], .func (.func 85) #[] #[]]))
def KindsPost (w : World) (e : Ending) (w' : World) : Prop := ∃ b n s1 s2 s3 s4, e = .returned (.map (some b)) ∧ w'.ownsMap Try.prog 5 rawE b n (kindD s1 s2 s3 s4) ∧ Kept w w' ∧ w.heap.size ≤ b
set_option maxHeartbeats 1000000 in
theorem kinds_any (w : World) : Calls Try.prog 75 #[] w (KindsPost w) := by
  have hmm := @run_makeMap Try.prog
  have hfresh := World.ownsMap_made (H := Value) w Try.prog 5 rawE
  have HFR := Lib.hid hfresh
  clear hfresh
  have hk : ∀ n : Int, 0 ≤ n ∧ n ≤ 255 → keyOf Try.prog 5 (.int .u8 n) = some (.int .u8 n) := fun n hn => Maps.keyOf_int_mk Try.underlying5 (WalkArith.wf_u8 hn)
  have HKY := Lib.hid hk
  clear hk
  go_enter Try.func75, Try.ntmps75
  go_wp2_with (first | (refine wpList_insert_own _ rfl _ _ _ 126 rfl 5 124 keyed5 Try.underlying126 rawE _ _ _ rfl H3.out (by unfold maxLen; omega) _ _ _ rfl rfl (HKY.out _ (by omega)) _ _ rfl ?_; intro w4 hown4 hg4; have H4 := Lib.hid hown4; have HG4 := Lib.hid hg4; clear hown4 hg4) | (refine wpList_insert_own _ rfl _ _ _ 126 rfl 5 124 keyed5 Try.underlying126 rawE _ _ _ rfl H2.out (by unfold maxLen; omega) _ _ _ rfl rfl (HKY.out _ (by omega)) _ _ rfl ?_; intro w3 hown3 hg3; have H3 := Lib.hid hown3; have HG3 := Lib.hid hg3; clear hown3 hg3) | (refine wpList_insert_own _ rfl _ _ _ 126 rfl 5 124 keyed5 Try.underlying126 rawE _ _ _ rfl H1.out (by unfold maxLen; omega) _ _ _ rfl rfl (HKY.out _ (by omega)) _ _ rfl ?_; intro w2 hown2 hg2; have H2 := Lib.hid hown2; have HG2 := Lib.hid hg2; clear hown2 hg2) | (refine wpList_insert_own _ rfl _ _ _ 126 rfl 5 124 keyed5 Try.underlying126 rawE _ _ _ rfl HFR.out (by unfold maxLen; omega) _ _ _ rfl rfl (HKY.out _ (by omega)) _ _ rfl ?_; intro w1 hown1 hg1; have H1 := Lib.hid hown1; have HG1 := Lib.hid hg1; clear hown1 hg1) | fail)
  have k0 : Kept w (w.alloc (.map #[] 0)) := (Kept.refl w).alloc _
  have k1 : Kept w w1 := Kept.grown k0 HG1.out (fun r e => by cases e; exact Nat.le_refl _)
  have k2 : Kept w w2 := Kept.grown k1 HG2.out (fun r e => by cases e; exact Nat.le_refl _)
  have k3 : Kept w w3 := Kept.grown k2 HG3.out (fun r e => by cases e; exact Nat.le_refl _)
  have k4 : Kept w w4 := Kept.grown k3 HG4.out (fun r e => by cases e; exact Nat.le_refl _)
  go_ret
  exact ⟨_, _, _, _, _, _, rfl, H4.out, k4, Nat.le_refl _⟩
theorem kind_is (s1 s2 s3 s4 : ByteArray) : Maps.IsMap (kindD s1 s2 s3 s4) := (((Maps.isMap_empty.put _ _).put _ _).put _ _).put _ _
theorem kind_one (s1 s2 s3 s4 : ByteArray) (z : DataW Value) : (kindD s1 s2 s3 s4).atKey (.int .u8 1) z = .held (.agg #[.string s1, .func (.func 82) #[] #[], .func (.func 83) #[] #[]]) := by
  unfold kindD
  rw [Maps.atKey_put_other (by simp), Maps.atKey_put_other (by simp), Maps.atKey_put_other (by simp), Maps.atKey_put_same (k := .int .u8 1) Maps.isMap_empty trivial]
theorem kind_void (s1 s2 s3 s4 : ByteArray) (z : DataW Value) : (kindD s1 s2 s3 s4).atKey (.int .u8 4) z = .held (.agg #[.string s4, .func (.func 84) #[] #[], .func (.func 85) #[] #[]]) := by
  unfold kindD
  rw [Maps.atKey_put_same (k := .int .u8 4) (((Maps.isMap_empty.put _ _).put _ _).put _ _) trivial]
theorem kind_has (s1 s2 s3 s4 : ByteArray) : Maps.has (kindD s1 s2 s3 s4) (.int .u8 1) = true ∧ Maps.has (kindD s1 s2 s3 s4) (.int .u8 4) = true :=
  ⟨Maps.has_true_of_atKey fun z => kind_one s1 s2 s3 s4 z, Maps.has_true_of_atKey fun z => kind_void s1 s2 s3 s4 z⟩

/-- An observation whose fields are as its kind wants. -/
def ShapedOk (n : Int) (x : Obs) : Prop := x.kind = 1 ∧ 1 ≤ x.a ∧ x.a ≤ n ∧ 1 ≤ x.b ∧ x.b ≤ n ∧ x.a ≠ x.b ∧ x.vo = 0 ∨ x.kind = 4 ∧ x.a = 0 ∧ x.b = 0 ∧ 1 ≤ x.vo ∧ x.vo ≤ 1000000
theorem kind_run {X : World} {b n : Nat} {D : DataW Value} (h : X.ownsMap Try.prog 5 rawE b n D) {k : Int} (hk : 0 ≤ k ∧ k ≤ 255) {v : Value} (hh : Maps.has D (.int .u8 k) = true) (hv : ∀ z, D.atKey (.int .u8 k) z = .held v) :
    (Instr.lookup 126 (.map (some b)) (.int .u8 k) true).run Try.prog X = .ok (.tuple #[v, .bool true]) X := by
  obtain ⟨v', ps, hr, hv'⟩ := h.look_ok keyed5 Try.underlying126 (Try.zeroValue124 X) (zd := .held (.agg #[.string ⟨#[]⟩, .nilFunc, .nilFunc])) (zp := []) rfl (Maps.keyOf_int_mk Try.underlying5 (WalkArith.wf_u8 hk))
  rw [hv] at hv'
  rw [hr, hh, rawE_inv hv']
/-- A kind in a variable. -/
structure KindBox (X : World) (g : Nat) (s : ByteArray) (f t : Fn) : Prop where
  c0 : X.cell? ⟨g, 0, none⟩ = some (.string s)
  c1 : X.cell? ⟨g, 1, none⟩ = some (.func f #[] #[])
  c2 : X.cell? ⟨g, 2, none⟩ = some (.func t #[] #[])
theorem KindBox.kept {X Y : World} {g : Nat} {s : ByteArray} {f t : Fn} (h : KindBox X g s f t) (hk : Kept X Y) : KindBox Y g s f t := ⟨hk.cell h.c0, hk.cell h.c1, hk.cell h.c2⟩
theorem kind_zero {w0 w1 : World} (h : Kept (w0.alloc (.cells #[.string ⟨#[]⟩, .nilFunc, .nilFunc] 124)) w1) :
    w1.cell? ⟨w0.heap.size, 0, none⟩ = some (.string ⟨#[]⟩) ∧ w1.cell? ⟨w0.heap.size, 1, none⟩ = some .nilFunc ∧ w1.cell? ⟨w0.heap.size, 2, none⟩ = some .nilFunc ∧ (∀ o, w1.frozen? ⟨w0.heap.size, o, none⟩ = false) ∧ w0.heap.size < w1.heap.size := by
  have hh := heap_alloc_new w0 (.cells #[.string ⟨#[]⟩, .nilFunc, .nilFunc] 124)
  have c : ∀ i v, (#[.string ⟨#[]⟩, .nilFunc, .nilFunc] : Array Value)[i]? = some v → (w0.alloc (.cells #[.string ⟨#[]⟩, .nilFunc, .nilFunc] 124)).cell? ⟨w0.heap.size, i, none⟩ = some v := fun i v hv => by
    unfold World.cell?
    simp only []
    rw [hh]
    exact hv
  have hl := h.size
  simp at hl
  refine ⟨h.cell (c 0 _ rfl), h.cell (c 1 _ rfl), h.cell (c 2 _ rfl), fun o => ?_, by omega⟩
  rw [h.cells.2 _ _ (by simp)]
  exact frozen_of_row _ _ _ _ _ hh
theorem kindbox_new (w : World) (s : ByteArray) (f t : Fn) : KindBox (w.alloc (.cells #[.string s, .func f #[] #[], .func t #[] #[]] 124)) w.heap.size s f t := by
  have hh := heap_alloc_new w (.cells #[.string s, .func f #[] #[], .func t #[] #[]] 124)
  constructor <;> (unfold World.cell?; simp only []; rw [hh]; rfl)
theorem kindbox_set {w : World} {g : Nat} {s0 s : ByteArray} {v1 v2 : Value} (f t : Fn) (h0 : w.cell? ⟨g, 0, none⟩ = some (.string s0)) (h1 : w.cell? ⟨g, 1, none⟩ = some v1) (h2 : w.cell? ⟨g, 2, none⟩ = some v2) :
    KindBox (((w.setCell ⟨g, 0, none⟩ (.string s)).setCell ⟨g, 1, none⟩ (.func f #[] #[])).setCell ⟨g, 2, none⟩ (.func t #[] #[])) g s f t :=
  ⟨cell_set_off (cell_set_off (cell_set_same h0) (by omega)) (by omega), cell_set_off (cell_set_same (cell_set_off h1 (by omega))) (by omega), cell_set_same (cell_set_off (cell_set_off h2 (by omega)) (by omega))⟩
set_option maxHeartbeats 1000000 in
theorem shaped_over (x : Obs) (n : Int) (w : World) (h : x.kind = 1 ∧ 1 ≤ x.a ∧ x.a ≤ n ∧ 1 ≤ x.b ∧ x.b ≤ n ∧ x.a ≠ x.b ∧ x.vo = 0) : Calls Try.prog 51 #[obsV x, .int .i64 n] w (Gives (.bool true) w) := by
  obtain ⟨xi, xk, xr, xq, xa, xb, xv⟩ := x
  obtain ⟨rfl, h1, h2, h3, h4, h5, rfl⟩ := h
  have hsf := fun (f : Fn) (a : Addr) (w : World) => run_store Try.prog w a (.func f #[] #[]) .plain rfl
  go_enter Try.func51, Try.ntmps51
  go_wp2_with fail
  obtain ⟨w0, e0, hk0, hb0, hs0, -⟩ := alloc_obs w xi xk xr 1 xa xb 0
  rw [e0]
  clear e0
  obtain ⟨g0, hg0⟩ : ∃ g, w.heap.size = g := ⟨_, rfl⟩
  rw [hg0] at hb0 ⊢
  have HK0 := Lib.hid hk0
  have HB0 := Lib.hid hb0
  have HG0 := Lib.hid hg0
  have HS0 : Hid (w.heap.size < w0.heap.size) := Lib.hid (by omega)
  have hn1 : ¬ (g0 = w0.heap.size) := by omega
  have hn2 : ¬ (w0.heap.size = g0) := by omega
  clear hk0 hb0 hg0 hs0
  have c3 := HB0.out.c3
  go_cut [5, 6] (fun s5 s6 wx => ∃ (g : Nat) (s : ByteArray), s5 = .pointer (some ⟨g, 0, none⟩) ∧ s6 = .bool true ∧ w0.heap.size ≤ g ∧ KindBox wx g s (.func 82) (.func 83) ∧ Kept w0 wx)
  case first =>
    go_region_held3 (fun X => X.cell? ⟨g0, 3, none⟩ = some (.int .u8 1)) (first | exact c3k | go_keep | (simp only [World.cell?_setCell, hn1, hn2, c3k]; simp [hn1, hn2, c3k])) (first | (go_at_call 75; refine (kinds_any _).mono ?_; rintro e w1 ⟨b, m, s1, s2, s3, s4, rfl, hown, hk1, hb1⟩; have c3k : w1.cell? ⟨g0, 3, none⟩ = some (.int .u8 1) := (by first | exact hk1.cell c3 | exact hk1.cell (((Kept.refl w0).alloc _).cell c3)); have hl1 := kind_run hown (by omega : (0 : Int) ≤ 1 ∧ (1 : Int) ≤ 255) (kind_has s1 s2 s3 s4).1 (kind_one s1 s2 s3 s4); have hl2 := kind_run (hown.alloc (.cells #[.string ⟨#[]⟩, .nilFunc, .nilFunc] 124)) (by omega : (0 : Int) ≤ 1 ∧ (1 : Int) ≤ 255) (kind_has s1 s2 s3 s4).1 (kind_one s1 s2 s3 s4); (first | (have yk : Kept (w0.alloc (.cells #[.string ⟨#[]⟩, .nilFunc, .nilFunc] 124)) w1 := (by first | exact hk1 | exact (Kept.refl _).drew.trans hk1 | exact ((Kept.refl _).alloc _).drew.trans hk1); obtain ⟨y0, y1, y2, y3, y4⟩ := kind_zero yk) | skip)))
    all_goals
      go_wp2_with fail
      go_meet
    · exact ⟨_, _, rfl, rfl, hk1.size, kindbox_new _ _ _ _, ((Kept.refl _).drew.trans hk1).alloc _⟩
    · exact ⟨_, _, rfl, rfl, hk1.size, kindbox_new _ _ _ _, ((Kept.refl _).drew.trans hk1).alloc _⟩
    · have hk2 : Kept w0 w1 := (((Kept.refl _).alloc _).drew).trans hk1
      exact ⟨_, _, rfl, rfl, Nat.le_refl _, kindbox_set _ _ y0 y1 y2, ((hk2.setCell (p := ⟨w0.heap.size, 0, none⟩) (Nat.le_refl _) _).setCell (p := ⟨w0.heap.size, 1, none⟩) (Nat.le_refl _) _).setCell (p := ⟨w0.heap.size, 2, none⟩) (Nat.le_refl _) _⟩
  case rest =>
    obtain ⟨g1, s, rfl, rfl, hg1, hkb, hk⟩ := hcut
    have HKB := Lib.hid hkb
    have HK1 := Lib.hid hk
    have HB1 := Lib.hid (HB0.out.kept hk)
    clear hkb hk hn1 hn2 c3 hg1
    obtain ⟨b0, b1, b2, b3, b4, b5, b6⟩ := HB1.out
    have hb := lt_of_cell b0
    obtain ⟨d0, d1, d2⟩ := HKB.out
    have hd := lt_of_cell d0
    simp only [] at b0 b1 b2 b3 b4 b5 b6
    go_wp2_with fail
    refine (two_yes ⟨xi, xk, xr, 1, xa, xb, 0⟩ n _ h1 h2 h3 h4 h5).mono ?_
    rintro e w2 ⟨rfl, hk2⟩
    have HK2 := Lib.hid (HK1.out.trans hk2)
    have HB2 := Lib.hid (HB1.out.kept hk2)
    have HKB2 := Lib.hid (HKB.out.kept hk2)
    clear b0 b1 b2 b3 b4 b5 b6 hb d0 d1 d2 hd hk2
    obtain ⟨b0, b1, b2, b3, b4, b5, b6⟩ := HB2.out
    have hb := lt_of_cell b0
    obtain ⟨d0, d1, d2⟩ := HKB2.out
    have hd := lt_of_cell d0
    simp only [] at b0 b1 b2 b3 b4 b5 b6
    clear hsf
    go_wp2_with fail
    clear b0 b1 b2 b3 b4 b5 b6 hb d0 d1 d2 hd
    obtain ⟨w3, e3, hk3, hb3, hs3, hf3⟩ := alloc_obs w2 xi xk xr 1 xa xb 0
    rw [e3]
    clear e3
    obtain ⟨g2, hg2⟩ : ∃ g, w2.heap.size = g := ⟨_, rfl⟩
    rw [hg2] at hb3 hf3 ⊢
    refine (pair_any g2 w3).mono ?_
    rintro e w4 ⟨gp, rfl, hgp, p0, p1, hk4⟩
    have HP := Lib.hid (And.intro p0 p1)
    have HB4 := Lib.hid (hb3.kept hk4)
    have HF4 : Hid (∀ o, w4.frozen? ⟨g2, o, none⟩ = false) := Lib.hid fun o => by rw [hk4.cells.2 _ _ (lt_of_cell hb3.c0)]; exact hf3 o
    have HK4 := Lib.hid (HK2.out.trans (hk3.trans hk4))
    have HNE : Hid (gp ≠ g2) := Lib.hid (by omega)
    have HG2 : Hid (w0.heap.size ≤ g2) := Lib.hid (by rw [← hg2]; exact HK2.out.size)
    clear hgp p0 p1 hk4 hf3 hb3 hk3 hs3 hg2
    go_wp2_with fail
    go_loopw [32] (fun iv wr => ∃ k : Nat, k ≤ 2 ∧ iv = .int .i64 k ∧ Kept w0 wr ∧ (∀ o, wr.frozen? ⟨g2, o, none⟩ = false) ∧ ObsBox wr g2 ⟨xi, xk, xr, 1, if 0 < k then 0 else xa, if 1 < k then 0 else xb, 0⟩ ∧ wr.cell? ⟨gp, 0, none⟩ = some (.pointer (some ⟨g2, 4, none⟩)) ∧ wr.cell? ⟨gp, 1, none⟩ = some (.pointer (some ⟨g2, 5, none⟩))) (fun iv _ => 2 - (intOf iv).toNat)
    case atStart => exact ⟨0, by omega, rfl, HK4.out, HF4.out, by simpa using HB4.out, HP.out.1, HP.out.2⟩
    case round =>
      obtain ⟨k, hk, rfl, hkr, hfr, hbr, q0, q1⟩ := hrel
      have HKR := Lib.hid hkr
      have HFR := Lib.hid hfr
      have HBR := Lib.hid hbr
      have HQ := Lib.hid (And.intro q0 q1)
      clear hkr hfr hbr q0 q1
      have hcase : k = 0 ∨ k = 1 ∨ k = 2 := by omega
      rcases hcase with rfl | rfl | rfl
      · have q0 := HQ.out.1
        have qb := lt_of_cell q0
        have f4 := HFR.out 4
        have c4 := HBR.out.c4
        have cb := lt_of_cell c4
        simp only [] at c4
        clear hk
        go_wp2
        go_roundw
        case measure => simp [intOf]
        case rel =>
          refine ⟨1, by omega, by go_num, HKR.out.setCell (p := ⟨g2, 4, none⟩) HG2.out _, fun o => by rw [World.frozen?_setCell]; exact HFR.out o, ?_, cell_set_block HQ.out.1 HNE.out, cell_set_block HQ.out.2 HNE.out⟩
          have := HBR.out.setA 0
          simpa using this
      · have q1 := HQ.out.2
        have qb := lt_of_cell q1
        have f5 := HFR.out 5
        have c5 := HBR.out.c5
        have cb := lt_of_cell c5
        simp only [] at c5
        clear hk
        go_wp2
        go_roundw
        case measure => simp [intOf]
        case rel =>
          refine ⟨2, by omega, by go_num, HKR.out.setCell (p := ⟨g2, 5, none⟩) HG2.out _, fun o => by rw [World.frozen?_setCell]; exact HFR.out o, ?_, cell_set_block HQ.out.1 HNE.out, cell_set_block HQ.out.2 HNE.out⟩
          have := HBR.out.setB 0
          simpa using this
      · obtain ⟨-, -, -, -, c4, c5, c6⟩ := HBR.out
        have cb := lt_of_cell c4
        simp at c4 c5 c6
        clear hk
        go_wp2
        go_ret
        exact ⟨rfl, HK0.out.trans HKR.out⟩
set_option maxHeartbeats 1000000 in
theorem shaped_void (x : Obs) (n : Int) (w : World) (h : x.kind = 4 ∧ x.a = 0 ∧ x.b = 0 ∧ 1 ≤ x.vo ∧ x.vo ≤ 1000000) : Calls Try.prog 51 #[obsV x, .int .i64 n] w (Gives (.bool true) w) := by
  obtain ⟨xi, xk, xr, xq, xa, xb, xv⟩ := x
  obtain ⟨rfl, rfl, rfl, h1, h2⟩ := h
  have hsf := fun (f : Fn) (a : Addr) (w : World) => run_store Try.prog w a (.func f #[] #[]) .plain rfl
  go_enter Try.func51, Try.ntmps51
  go_wp2_with fail
  obtain ⟨w0, e0, hk0, hb0, hs0, -⟩ := alloc_obs w xi xk xr 4 0 0 xv
  rw [e0]
  clear e0
  obtain ⟨g0, hg0⟩ : ∃ g, w.heap.size = g := ⟨_, rfl⟩
  rw [hg0] at hb0 ⊢
  have HK0 := Lib.hid hk0
  have HB0 := Lib.hid hb0
  have HG0 := Lib.hid hg0
  have HS0 : Hid (w.heap.size < w0.heap.size) := Lib.hid (by omega)
  have hn1 : ¬ (g0 = w0.heap.size) := by omega
  have hn2 : ¬ (w0.heap.size = g0) := by omega
  clear hk0 hb0 hg0 hs0
  have c3 := HB0.out.c3
  go_cut [5, 6] (fun s5 s6 wx => ∃ (g : Nat) (s : ByteArray), s5 = .pointer (some ⟨g, 0, none⟩) ∧ s6 = .bool true ∧ w0.heap.size ≤ g ∧ KindBox wx g s (.func 84) (.func 85) ∧ Kept w0 wx)
  case first =>
    go_region_held3 (fun X => X.cell? ⟨g0, 3, none⟩ = some (.int .u8 4)) (first | exact c3k | go_keep | (simp only [World.cell?_setCell, hn1, hn2, c3k]; simp [hn1, hn2, c3k])) (first | (go_at_call 75; refine (kinds_any _).mono ?_; rintro e w1 ⟨b, m, s1, s2, s3, s4, rfl, hown, hk1, hb1⟩; have c3k : w1.cell? ⟨g0, 3, none⟩ = some (.int .u8 4) := (by first | exact hk1.cell c3 | exact hk1.cell (((Kept.refl w0).alloc _).cell c3)); have hl1 := kind_run hown (by omega : (0 : Int) ≤ 4 ∧ (4 : Int) ≤ 255) (kind_has s1 s2 s3 s4).2 (kind_void s1 s2 s3 s4); have hl2 := kind_run (hown.alloc (.cells #[.string ⟨#[]⟩, .nilFunc, .nilFunc] 124)) (by omega : (0 : Int) ≤ 4 ∧ (4 : Int) ≤ 255) (kind_has s1 s2 s3 s4).2 (kind_void s1 s2 s3 s4); (first | (have yk : Kept (w0.alloc (.cells #[.string ⟨#[]⟩, .nilFunc, .nilFunc] 124)) w1 := (by first | exact hk1 | exact (Kept.refl _).drew.trans hk1 | exact ((Kept.refl _).alloc _).drew.trans hk1); obtain ⟨y0, y1, y2, y3, y4⟩ := kind_zero yk) | skip)))
    all_goals
      go_wp2_with fail
      go_meet
    · exact ⟨_, _, rfl, rfl, hk1.size, kindbox_new _ _ _ _, ((Kept.refl _).drew.trans hk1).alloc _⟩
    · exact ⟨_, _, rfl, rfl, hk1.size, kindbox_new _ _ _ _, ((Kept.refl _).drew.trans hk1).alloc _⟩
    · have hk2 : Kept w0 w1 := (((Kept.refl _).alloc _).drew).trans hk1
      exact ⟨_, _, rfl, rfl, Nat.le_refl _, kindbox_set _ _ y0 y1 y2, ((hk2.setCell (p := ⟨w0.heap.size, 0, none⟩) (Nat.le_refl _) _).setCell (p := ⟨w0.heap.size, 1, none⟩) (Nat.le_refl _) _).setCell (p := ⟨w0.heap.size, 2, none⟩) (Nat.le_refl _) _⟩
  case rest =>
    obtain ⟨g1, s, rfl, rfl, hg1, hkb, hk⟩ := hcut
    have HKB := Lib.hid hkb
    have HK1 := Lib.hid hk
    have HB1 := Lib.hid (HB0.out.kept hk)
    clear hkb hk hn1 hn2 c3 hg1
    obtain ⟨b0, b1, b2, b3, b4, b5, b6⟩ := HB1.out
    have hb := lt_of_cell b0
    obtain ⟨d0, d1, d2⟩ := HKB.out
    have hd := lt_of_cell d0
    simp only [] at b0 b1 b2 b3 b4 b5 b6
    go_wp2_with fail
    refine (void_yes ⟨xi, xk, xr, 4, 0, 0, xv⟩ n _ h1 h2).mono ?_
    rintro e w2 ⟨rfl, hk2⟩
    have HK2 := Lib.hid (HK1.out.trans hk2)
    have HB2 := Lib.hid (HB1.out.kept hk2)
    have HKB2 := Lib.hid (HKB.out.kept hk2)
    clear b0 b1 b2 b3 b4 b5 b6 hb d0 d1 d2 hd hk2
    obtain ⟨b0, b1, b2, b3, b4, b5, b6⟩ := HB2.out
    have hb := lt_of_cell b0
    obtain ⟨d0, d1, d2⟩ := HKB2.out
    have hd := lt_of_cell d0
    simp only [] at b0 b1 b2 b3 b4 b5 b6
    clear hsf
    go_wp2_with fail
    clear b0 b1 b2 b3 b4 b5 b6 hb d0 d1 d2 hd
    obtain ⟨w3, e3, hk3, hb3, hs3, hf3⟩ := alloc_obs w2 xi xk xr 4 0 0 xv
    rw [e3]
    clear e3
    obtain ⟨g2, hg2⟩ : ∃ g, w2.heap.size = g := ⟨_, rfl⟩
    rw [hg2] at hb3 hf3 ⊢
    refine (voidf_any g2 w3).mono ?_
    rintro e w4 ⟨gp, rfl, hgp, p0, hk4⟩
    have HP := Lib.hid p0
    have HB4 := Lib.hid (hb3.kept hk4)
    have HF4 : Hid (∀ o, w4.frozen? ⟨g2, o, none⟩ = false) := Lib.hid fun o => by rw [hk4.cells.2 _ _ (lt_of_cell hb3.c0)]; exact hf3 o
    have HK4 := Lib.hid (HK2.out.trans (hk3.trans hk4))
    have HNE : Hid (gp ≠ g2) := Lib.hid (by omega)
    have HG2 : Hid (w0.heap.size ≤ g2) := Lib.hid (by rw [← hg2]; exact HK2.out.size)
    clear hgp p0 hk4 hf3 hb3 hk3 hs3 hg2
    go_wp2_with fail
    go_loopw [32] (fun iv wr => ∃ k : Nat, k ≤ 1 ∧ iv = .int .i64 k ∧ Kept w0 wr ∧ (∀ o, wr.frozen? ⟨g2, o, none⟩ = false) ∧ ObsBox wr g2 ⟨xi, xk, xr, 4, 0, 0, if 0 < k then 0 else xv⟩ ∧ wr.cell? ⟨gp, 0, none⟩ = some (.pointer (some ⟨g2, 6, none⟩))) (fun iv _ => 1 - (intOf iv).toNat)
    case atStart => exact ⟨0, by omega, rfl, HK4.out, HF4.out, by simpa using HB4.out, HP.out⟩
    case round =>
      obtain ⟨k, hk, rfl, hkr, hfr, hbr, q0⟩ := hrel
      have HKR := Lib.hid hkr
      have HFR := Lib.hid hfr
      have HBR := Lib.hid hbr
      have HQ := Lib.hid q0
      clear hkr hfr hbr q0
      have hcase : k = 0 ∨ k = 1 := by omega
      rcases hcase with rfl | rfl
      · have q0 := HQ.out
        have qb := lt_of_cell q0
        have f4 := HFR.out 6
        have c4 := HBR.out.c6
        have cb := lt_of_cell c4
        simp only [] at c4
        clear hk
        go_wp2
        go_roundw
        case measure => simp [intOf]
        case rel =>
          refine ⟨1, by omega, by go_num, HKR.out.setCell (p := ⟨g2, 6, none⟩) HG2.out _, fun o => by rw [World.frozen?_setCell]; exact HFR.out o, ?_, cell_set_block HQ.out HNE.out⟩
          have := HBR.out.setVo 0
          simpa using this
      · obtain ⟨-, -, -, -, c4, c5, c6⟩ := HBR.out
        have cb := lt_of_cell c4
        simp at c4 c5 c6
        clear hk
        go_wp2
        go_ret
        exact ⟨rfl, HK0.out.trans HKR.out⟩
theorem shaped_yes (x : Obs) (n : Int) (w : World) (h : ShapedOk n x) : Calls Try.prog 51 #[obsV x, .int .i64 n] w (Gives (.bool true) w) := by
  rcases h with h | h
  · exact shaped_over x n w h
  · exact shaped_void x n w h
/-- A well-formed observation. -/
def FormedOk (n : Int) (x : Obs) : Prop := 1 ≤ x.id ∧ x.id ≤ 1000000 ∧ x.reader = 1 ∧ 0 ≤ x.known ∧ x.known ≤ 100000 ∧ ShapedOk n x
set_option maxHeartbeats 1000000 in
theorem formed_yes (x : Obs) (n : Int) (w : World) (h : FormedOk n x) : Calls Try.prog 24 #[obsV x, .int .i64 n] w (Gives (.bool true) w) := by
  obtain ⟨xi, xk, xr, xq, xa, xb, xv⟩ := x
  obtain ⟨h1, h2, rfl, h3, h4, h5⟩ := h
  simp only [] at h1 h2 h3 h4
  have H5 := Lib.hid h5
  clear h5
  go_enter Try.func24, Try.ntmps24
  go_wp2_with fail
  refine (in_yes h1 h2 _).mono ?_
  rintro e w1 ⟨rfl, rfl⟩
  go_wp2_with fail
  refine (in_yes (by omega) (by omega) _).mono ?_
  rintro e w1 ⟨rfl, rfl⟩
  go_wp2_with fail
  refine (in_yes h3 h4 _).mono ?_
  rintro e w1 ⟨rfl, rfl⟩
  go_wp2_with fail
  refine (shaped_yes ⟨xi, xk, 1, xq, xa, xb, xv⟩ n _ H5.out).mono ?_
  rintro e w1 ⟨rfl, hk⟩
  have HK := Lib.hid (((Kept.refl w).alloc _).trans hk)
  clear hk
  go_wp2
  go_ret
  exact ⟨rfl, HK.out⟩
end Go.Proofs.Ytgmodcipbklejaa
