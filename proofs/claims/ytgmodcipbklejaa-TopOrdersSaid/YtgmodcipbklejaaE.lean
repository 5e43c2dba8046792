/- reading.Check, Counting, ask: at right lists. -/
import Derived.Test.YtgmodcipbklejaaD
import Derived.Test.YtgmodcipbklejaaB
set_option maxRecDepth 100000
namespace Go.Proofs.Ytgmodcipbklejaa
open Go Go.Proofs Go.RowKit
open Go.Maps (Keyed)
attribute [local go_sem] Oper.semAt_some

theorem wpList_lookup_raw {P : Program} (w : World) {ops : Array Oper} {rest : List Oper} {o : Oper} {a : Act} {Q : Exit → Act → World → Prop} (hg : o.guard = none) (m x : Operand) (t : TypeId) (hop : o.op = Op.lookup t m x true)
    (k e : TypeId) (K : Keyed P k) (ht : P.underlying t = some (.map k e)) {z : Value} (hz : (zeroValue e).run P w = .ok z w) (b n : Nat) (D : DataW Value)
    (hm : a.eval m = .map (some b)) (hown : w.ownsMap P k rawE b n D) (key : Value) (kl : Lit) (hx : a.eval x = key) (hkey : keyOf P k key = some kl) (v : Value) (c : Bool) (hv : D.atKey kl (.held z) = .held v) (hc : Maps.has D kl = c)
    (hK : wpList P ops Q rest (a.put o.dst (.tuple #[v, .bool c])) w) : wpList P ops Q (o :: rest) a w :=
  wpList_lookup_own_ok w hg m x t hop k e K ht rawE hz (.held z) [] rfl b n D hm hown key kl hx hkey (fun v' ps hv' => by
    rw [hv] at hv'
    rw [rawE_inv hv', hc]
    exact hK)
theorem wf_small {x : Int} (h : -2000000 ≤ x ∧ x ≤ 2000000) : (Lit.int .i64 x).wf = true := WalkArith.wf_i64 (by omega)
theorem key3 {x : Int} (h : -2000000 ≤ x ∧ x ≤ 2000000) : keyOf Try.prog 3 (.int .i64 x) = some (.int .i64 x) := Maps.keyOf_int_mk Try.underlying3 (wf_small h)

/-- The map D holds the first i observations of s by their numbers. -/
def HoldsObs (s : List Obs) (i : Nat) (D : DataW Value) : Prop :=
  (∀ id : Int, Maps.has D (.int .i64 id) = true ↔ 1 ≤ id ∧ id ≤ (i : Int)) ∧ ∀ j x, j < i → s[j]? = some x → ∀ z, D.atKey (.int .i64 ((j : Int) + 1)) z = .held (obsV x)
theorem HoldsObs.start (s : List Obs) : HoldsObs s 0 (.map []) := ⟨fun id => by simp [Maps.has]; omega, fun j x h => absurd h (Nat.not_lt_zero _)⟩
theorem HoldsObs.put {s : List Obs} {i : Nat} {D : DataW Value} (h : HoldsObs s i D) (hm : Maps.IsMap D) {x : Obs} (hx : s[i]? = some x) : HoldsObs s (i + 1) (D.put (.int .i64 ((i : Int) + 1)) (.held (obsV x))) := by
  refine ⟨fun id => ?_, fun j y hj hy z => ?_⟩
  · by_cases e : id = (i : Int) + 1
    · subst e
      rw [Maps.has_put_same (k := .int .i64 ((i : Int) + 1)) hm trivial]
      simp
      omega
    · rw [Maps.has_put_other (by simp [e]), h.1 id]
      omega
  · by_cases e : j = i
    · subst e
      rw [hx] at hy
      cases hy
      exact Maps.atKey_put_same (k := .int .i64 ((j : Int) + 1)) hm trivial _ _
    · rw [Maps.atKey_put_other (by simp; omega)]
      exact h.2 j y (by omega) hy z
def SeenM (X : World) (b : Nat) (s : List Obs) (i : Nat) : Prop := ∃ D, X.ownsMap Try.prog 3 rawE b i D ∧ HoldsObs s i D

theorem right_formed {n : Int} {s : List Obs} (h : Right n s) (hl : s.length ≤ 100) {i : Nat} {x : Obs} (hx : s[i]? = some x) : FormedOk n x := by
  have hi := (List.getElem?_eq_some_iff.1 hx).1
  obtain ⟨h1, h2, h3, h4, h5⟩ := h.1 i x hx
  refine ⟨by omega, by omega, h2, h3, h4, ?_⟩
  rcases h5 with ⟨g1, g2, g3, g4, g5, g6, g7⟩ | ⟨g1, g2, g3, j, y, hj, hv, -, -⟩
  · exact .inl ⟨g1, g2, g3, g4, g5, g6, g7⟩
  · exact .inr ⟨g1, g2, g3, by omega, by omega⟩

theorem three_obs (w : World) (x y z : Obs) : ∃ w4, ((w.alloc (.cells #[.int .i64 x.id, .int .i64 x.known, .int .i64 x.reader, .int .u8 x.kind, .int .i64 x.a, .int .i64 x.b, .int .i64 x.vo] 55)).alloc (.cells #[.int .i64 y.id, .int .i64 y.known, .int .i64 y.reader, .int .u8 y.kind, .int .i64 y.a, .int .i64 y.b, .int .i64 y.vo] 55)).alloc (.cells #[.int .i64 z.id, .int .i64 z.known, .int .i64 z.reader, .int .u8 z.kind, .int .i64 z.a, .int .i64 z.b, .int .i64 z.vo] 55) = w4 ∧
    Kept w w4 ∧ ObsBox w4 w.heap.size x ∧ ObsBox w4 (w.heap.size + 1) y := by
  obtain ⟨w1, e1, hk1, hb1, hs1, -⟩ := alloc_obs w x.id x.known x.reader x.kind x.a x.b x.vo
  obtain ⟨w2, e2, hk2, hb2, hs2, -⟩ := alloc_obs w1 y.id y.known y.reader y.kind y.a y.b y.vo
  refine ⟨_, rfl, ((hk1.trans hk2).alloc (.cells #[.int .i64 z.id, .int .i64 z.known, .int .i64 z.reader, .int .u8 z.kind, .int .i64 z.a, .int .i64 z.b, .int .i64 z.vo] 55)) |> (by rw [e1, e2]; exact ·), ?_, ?_⟩
  · rw [e1, e2]; exact (hb1.kept hk2).kept ((Kept.refl _).alloc _)
  · rw [e1, e2, hs1]; exact hb2.kept ((Kept.refl _).alloc _)
theorem lookup_not {D : DataW Value} {k : Lit} {z : Value} (h : Maps.has D k = false) : D.atKey k (.held z) = .held z := Maps.atKey_of_not_has h _
theorem ownsMap_kept {X Y : World} {k : TypeId} {R : Value → Option (DataW Value × List MemPlace)} {b n : Nat} {D : DataW Value} (h : X.ownsMap Try.prog k R b n D) (hk : Kept X Y) : Y.ownsMap Try.prog k R b n D := by
  obtain ⟨es, clock, hb, F, hs, hD⟩ := h
  exact ⟨es, clock, ((show Below X.heap.size X Y from hk).block _ (Array.getElem?_eq_some_iff.1 hb).1).trans hb, F, hs, hD⟩
abbrev zeroObs : Value := .agg #[.int .i64 0, .int .i64 0, .int .i64 0, .int .u8 0, .int .i64 0, .int .i64 0, .int .i64 0]
set_option maxHeartbeats 2000000 in
theorem RCheck_any (n : Int) (s : List Obs) (so : Option Addr) (c : Nat) (w : World) (h : Right n s) (hl : s.length ≤ 100) (hn : 0 ≤ n ∧ n ≤ 24) (hs : Obss w so s) :
    Calls Try.prog 10 #[.int .i64 n, .slice so s.length c] w (Gives (.tuple #[.int .i64 0, .int .i64 0]) w) := by
  have HR := Lib.hid h
  have HS := Lib.hid hs
  have HL := Lib.hid hl
  obtain ⟨hn0, hn1⟩ := hn
  have hmm := @run_makeMap Try.prog
  have hfresh := World.ownsMap_made (H := Value) w Try.prog 3 rawE
  have HFR := Lib.hid hfresh
  clear h hs hfresh
  go_enter Try.func10, Try.ntmps10
  go_wp2_with fail
  refine (in_yes hn0 hn1 _).mono ?_
  rintro e w1 ⟨rfl, rfl⟩
  clear hn0 hn1
  go_wp2_with fail
  obtain ⟨g, hg⟩ : ∃ g, w.heap.size = g := ⟨_, rfl⟩
  rw [hg] at HFR ⊢
  have HG := Lib.hid hg
  have HK0 : Hid (Kept w (w.alloc (.map #[] 0))) := Lib.hid ((Kept.refl w).alloc _)
  clear hg hmm
  generalize w.alloc (.map #[] 0) = w0 at *
  go_loopw [20] (fun iv wr => ∃ i : Nat, i ≤ s.length ∧ iv = .int .i64 i ∧ Kept w wr ∧ SeenM wr g s i) (fun iv _ => s.length - (intOf iv).toNat)
  case atStart => exact ⟨0, Nat.zero_le _, rfl, HK0.out, ⟨_, HFR.out, HoldsObs.start s⟩⟩
  case round =>
    obtain ⟨i, hi, rfl, hkr, hsm⟩ := hrel
    have HKR := Lib.hid hkr
    have HSM := Lib.hid hsm
    clear hkr hsm
    by_cases hlt : i < s.length
    case neg =>
      go_wp2
      go_ret2
      exact ⟨rfl, HKR.out⟩
    case pos =>
      obtain ⟨x, hx⟩ : ∃ x, s[i] = x := ⟨_, rfl⟩
      have hx2 : s[i]? = some x := by rw [List.getElem?_eq_getElem hlt, hx]
      have HFO := Lib.hid (right_formed HR.out hl hx2)
      obtain ⟨r1, r2, r3, r4, r5⟩ := HR.out.1 i x hx2
      have HX2 := Lib.hid hx2
      obtain ⟨sb, off, rfl, c0, c1, c2, c3, c4, c5, c6⟩ := HS.out.kept HKR.out i hlt
      rw [hx] at c0 c1 c2 c3 c4 c5 c6
      have HX := Lib.hid hx
      clear hx hx2 r3 r4 hi
      have hsb := lt_of_cell c0
      obtain ⟨D, hown, hho⟩ := HSM.out
      have HHO := Lib.hid hho
      have HOWN := Lib.hid hown
      have hin : Maps.has D (.int .i64 ((i : Int) + 1)) = false := by
        cases e : Maps.has D (.int .i64 ((i : Int) + 1)) with
        | false => rfl
        | true => have := (hho.1 _).1 e; omega
      have HIN := Lib.hid hin
      clear hown hho hin
      obtain ⟨xi, xk, xr, xq, xa, xb, xv⟩ := x
      simp only [] at r1 r2 r5 c0 c1 c2 c3 c4 c5 c6
      subst r1 r2
      rcases r5 with ⟨rfl, -, -, -, -, -, rfl⟩ | ⟨rfl, rfl, rfl, j, y, hj, rfl, hy, hyk⟩
      · have h0 : Maps.has D (.int .i64 0) = false := by
          cases e : Maps.has D (.int .i64 0) with
          | false => rfl
          | true => have := (HHO.out.1 _).1 e; omega
        have H0 := Lib.hid h0
        clear h0
        go_wp2_with (first | (at_lookup; refine wpList_lookup_raw _ rfl _ _ 62 rfl 3 55 keyed3 Try.underlying62 (Try.zeroValue55 _) g i D rfl ((HOWN.out.alloc _).alloc _) _ _ rfl (key3 (by omega)) zeroObs false (lookup_not HIN.out) HIN.out ?_) | (at_lookup; refine wpList_lookup_raw _ rfl _ _ 62 rfl 3 55 keyed3 Try.underlying62 (Try.zeroValue55 _) g i D rfl (HOWN.out.alloc _) _ _ rfl (key3 (by omega)) zeroObs false (lookup_not H0.out) H0.out ?_) | fail)
        obtain ⟨w4, e4, hk4, hb1, hb2⟩ := three_obs wr ⟨(i : Int) + 1, xk, 1, 1, xa, xb, 0⟩ ⟨0, 0, 0, 0, 0, 0, 0⟩ ⟨0, 0, 0, 0, 0, 0, 0⟩
        simp only [] at e4
        rw [e4]
        clear e4 c0 c1 c2 c3 c4 c5 c6 hsb
        obtain ⟨g1, hg1⟩ : ∃ g, wr.heap.size = g := ⟨_, rfl⟩
        rw [hg1] at hb1 ⊢
        have HG1 : Hid (g < g1) := Lib.hid (by rw [← hg1]; exact HOWN.out.lt)
        clear hg1 hb2
        refine (formed_yes ⟨(i : Int) + 1, xk, 1, 1, xa, xb, 0⟩ n w4 HFO.out).mono ?_
        rintro e w5 ⟨rfl, hk5⟩
        have HK5 := Lib.hid (hk4.trans hk5)
        have HB5 := Lib.hid (hb1.kept hk5)
        clear hk4 hk5 hb1
        obtain ⟨b0, b1, b2, b3, b4, b5, b6⟩ := HB5.out
        have hb := lt_of_cell b0
        simp only [] at b0 b1 b2 b3 b4 b5 b6
        have hi300 : ¬ (300 ≤ i) := by omega
        go_wp2
        by_cases h0 : 0 < i
        · obtain ⟨k, hk⟩ : ∃ k, i - 1 = k := ⟨_, rfl⟩
          have hwk : IntKind.i64.wrap ((i : Int) - 1) = (k : Int) := by rw [IntWalk.i64_in _ (by omega)]; omega
          have hkl : k < s.length := by omega
          obtain ⟨z, hz⟩ : ∃ z, s[k]? = some z := ⟨s[k], List.getElem?_eq_getElem hkl⟩
          have hik : k + 1 = i := by omega
          have hle : z.known ≤ xk := HR.out.2 k z _ hz (by rw [hik]; exact HX2.out)
          have hnl : decide (xk < z.known) = false := decide_eq_false (by omega)
          obtain ⟨sb', off', e, -, d1, -⟩ := HS.out.kept (HKR.out.trans HK5.out) k hkl
          simp only [Option.some.injEq, Addr.mk.injEq] at e
          obtain ⟨rfl, rfl, -⟩ := e
          have ez : s[k] = z := by rw [List.getElem?_eq_getElem hkl] at hz; exact Option.some.inj hz
          rw [ez] at d1
          have hdb := lt_of_cell d1
          clear ez hz hk hik
          refine region_tail 13 (by kernel_rfl) (by kernel_rfl) ?_
          simp only [List.take_succ_cons, List.take_zero, List.drop_succ_cons, List.drop_zero]
          iterate 13
            with_reducible refine wpStill_want ?_ (fun K hK => ?_)
            · rfl
            go_simp
            refine hK _ ?_
            clear hK K
          refine wpStill_nil ?_
          clear hwk
          go_wp2_with (first | (at_mapUpdate; refine wpList_mapUpdate_own _ rfl _ _ _ 62 rfl 3 55 keyed3 Try.underlying62 rawE g i D rfl (ownsMap_kept HOWN.out HK5.out.drew) (by unfold maxLen; omega) _ _ (.int .i64 ((i : Int) + 1)) rfl rfl (key3 (by omega)) (.held (obsV ⟨(i : Int) + 1, xk, 1, 1, xa, xb, 0⟩)) [] rfl ?_; intro w6 hown6 hg6) | fail)
          go_roundw
          case measure => simp [intOf]; omega
          case rel => exact ⟨i + 1, by omega, by go_num, Kept.grown (HKR.out.trans HK5.out.drew) hg6 (fun r e => by cases e; exact Nat.le_of_eq HG.out), ⟨_, hown6, HHO.out.put HOWN.out.isMap HX2.out⟩⟩
        · have hd2 : decide (0 < i) = false := decide_eq_false h0
          refine region_tail 13 (by kernel_rfl) (by kernel_rfl) ?_
          simp only [List.take_succ_cons, List.take_zero, List.drop_succ_cons, List.drop_zero]
          iterate 3
            with_reducible refine wpStill_want ?_ (fun K hK => ?_)
            · rfl
            go_simp
            refine hK _ ?_
            clear hK K
          iterate 9
            with_reducible refine wpStill_skip ?_ ?_
            · rfl
            simp only [Act.put, List.setIfInBounds_toArray, List.set_cons_zero, List.set_cons_succ]
          with_reducible refine wpStill_want ?_ (fun K hK => ?_)
          · rfl
          go_simp
          refine hK _ ?_
          clear hK K
          refine wpStill_nil ?_
          go_wp2_with (first | (at_mapUpdate; refine wpList_mapUpdate_own _ rfl _ _ _ 62 rfl 3 55 keyed3 Try.underlying62 rawE g i D rfl (ownsMap_kept HOWN.out HK5.out.drew) (by unfold maxLen; omega) _ _ (.int .i64 ((i : Int) + 1)) rfl rfl (key3 (by omega)) (.held (obsV ⟨(i : Int) + 1, xk, 1, 1, xa, xb, 0⟩)) [] rfl ?_; intro w6 hown6 hg6) | fail)
          go_roundw
          case measure => simp [intOf]; omega
          case rel => exact ⟨i + 1, by omega, by go_num, Kept.grown (HKR.out.trans HK5.out.drew) hg6 (fun r e => by cases e; exact Nat.le_of_eq HG.out), ⟨_, hown6, HHO.out.put HOWN.out.isMap HX2.out⟩⟩
      · obtain ⟨y1, y2, -, -, -⟩ := HR.out.1 j y hy
        have HJ : Hid (Maps.has D (.int .i64 ((j : Int) + 1)) = true) := Lib.hid ((HHO.out.1 _).2 (by omega))
        have HAT := Lib.hid (HHO.out.2 j y hj hy (.held zeroObs))
        clear hy
        obtain ⟨yi, yk, yr, yq, ya, yb, yv⟩ := y
        simp only [] at y1 y2 hyk
        subst y1 y2 hyk
        go_wp2_with (first | (at_lookup; refine wpList_lookup_raw _ rfl _ _ 62 rfl 3 55 keyed3 Try.underlying62 (Try.zeroValue55 _) g i D rfl ((HOWN.out.alloc _).alloc _) _ _ rfl (key3 (by omega)) zeroObs false (lookup_not HIN.out) HIN.out ?_) | (at_lookup; refine wpList_lookup_raw _ rfl _ _ 62 rfl 3 55 keyed3 Try.underlying62 (Try.zeroValue55 _) g i D rfl (HOWN.out.alloc _) _ _ rfl (key3 (by omega)) (obsV ⟨(j : Int) + 1, yk, 1, 1, ya, yb, yv⟩) true HAT.out HJ.out ?_) | fail)
        obtain ⟨w4, e4, hk4, hb1, hb2⟩ := three_obs wr ⟨(i : Int) + 1, xk, 1, 4, 0, 0, (j : Int) + 1⟩ ⟨(j : Int) + 1, yk, 1, 1, ya, yb, yv⟩ ⟨0, 0, 0, 0, 0, 0, 0⟩
        simp only [] at e4
        rw [e4]
        clear e4 c0 c1 c2 c3 c4 c5 c6 hsb
        obtain ⟨g1, hg1⟩ : ∃ g, wr.heap.size = g := ⟨_, rfl⟩
        rw [hg1] at hb1 hb2 ⊢
        have HG1 : Hid (g < g1) := Lib.hid (by rw [← hg1]; exact HOWN.out.lt)
        clear hg1
        refine (formed_yes ⟨(i : Int) + 1, xk, 1, 4, 0, 0, (j : Int) + 1⟩ n w4 HFO.out).mono ?_
        rintro e w5 ⟨rfl, hk5⟩
        have HK5 := Lib.hid (hk4.trans hk5)
        have HB5 := Lib.hid (hb1.kept hk5)
        have HB6 := Lib.hid (hb2.kept hk5)
        clear hk4 hk5 hb1 hb2
        obtain ⟨b0, b1, b2, b3, b4, b5, b6⟩ := HB5.out
        have hb := lt_of_cell b0
        simp only [] at b0 b1 b2 b3 b4 b5 b6
        obtain ⟨-, -, a2, a3, -⟩ := HB6.out
        have hab := lt_of_cell a2
        simp only [] at a2 a3
        have hi300 : ¬ (300 ≤ i) := by omega
        go_wp2
        by_cases h0 : 0 < i
        · obtain ⟨k, hk⟩ : ∃ k, i - 1 = k := ⟨_, rfl⟩
          have hwk : IntKind.i64.wrap ((i : Int) - 1) = (k : Int) := by rw [IntWalk.i64_in _ (by omega)]; omega
          have hkl : k < s.length := by omega
          obtain ⟨z, hz⟩ : ∃ z, s[k]? = some z := ⟨s[k], List.getElem?_eq_getElem hkl⟩
          have hik : k + 1 = i := by omega
          have hle : z.known ≤ xk := HR.out.2 k z _ hz (by rw [hik]; exact HX2.out)
          have hnl : decide (xk < z.known) = false := decide_eq_false (by omega)
          obtain ⟨sb', off', e, -, d1, -⟩ := HS.out.kept (HKR.out.trans HK5.out) k hkl
          simp only [Option.some.injEq, Addr.mk.injEq] at e
          obtain ⟨rfl, rfl, -⟩ := e
          have ez : s[k] = z := by rw [List.getElem?_eq_getElem hkl] at hz; exact Option.some.inj hz
          rw [ez] at d1
          have hdb := lt_of_cell d1
          clear ez hz hk hik
          refine region_tail 13 (by kernel_rfl) (by kernel_rfl) ?_
          simp only [List.take_succ_cons, List.take_zero, List.drop_succ_cons, List.drop_zero]
          iterate 13
            with_reducible refine wpStill_want ?_ (fun K hK => ?_)
            · rfl
            go_simp
            refine hK _ ?_
            clear hK K
          refine wpStill_nil ?_
          clear hwk
          go_wp2_with (first | (at_mapUpdate; refine wpList_mapUpdate_own _ rfl _ _ _ 62 rfl 3 55 keyed3 Try.underlying62 rawE g i D rfl (ownsMap_kept HOWN.out HK5.out.drew) (by unfold maxLen; omega) _ _ (.int .i64 ((i : Int) + 1)) rfl rfl (key3 (by omega)) (.held (obsV ⟨(i : Int) + 1, xk, 1, 4, 0, 0, (j : Int) + 1⟩)) [] rfl ?_; intro w6 hown6 hg6) | fail)
          go_roundw
          case measure => simp [intOf]; omega
          case rel => exact ⟨i + 1, by omega, by go_num, Kept.grown (HKR.out.trans HK5.out.drew) hg6 (fun r e => by cases e; exact Nat.le_of_eq HG.out), ⟨_, hown6, HHO.out.put HOWN.out.isMap HX2.out⟩⟩
        · exact absurd (by omega) h0
end Go.Proofs.Ytgmodcipbklejaa
