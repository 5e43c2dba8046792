/- ref.Reasons, ref.SameReasons. -/
import Derived.Test.YteljjkghjbofnaaYn
import Derived.WalkMore
set_option maxRecDepth 100000
namespace Go.Proofs.Yteljjkghjbofnaa
open Go Go.Proofs Go.RowKit
attribute [local go_sem] Oper.semAt_some

/-- A reason in a variable of the call's own. -/
structure RBox (X : World) (t : Nat) (x : Rsn) : Prop where
  c0 : X.cell? ⟨t, 0, none⟩ = some (.int .i64 x.1)
  c1 : X.cell? ⟨t, 1, none⟩ = some (.int .i64 x.2.1)
  c2 : X.cell? ⟨t, 2, none⟩ = some (.int .u8 x.2.2)
  fz : ∀ o, X.frozen? ⟨t, o, none⟩ = false
theorem RBox.kept {X Y : World} {t : Nat} {x : Rsn} (h : RBox X t x) (hk : Kept X Y) : RBox Y t x := ⟨hk.cell h.c0, hk.cell h.c1, hk.cell h.c2, fun o => (hk.cells.2 t o (lt_of_cell h.c0)).trans (h.fz o)⟩
theorem RBox.new (X : World) (x : Rsn) : RBox (X.alloc (.cells #[.int .i64 x.1, .int .i64 x.2.1, .int .u8 x.2.2] 44)) X.heap.size x :=
  ⟨rsn_new X x 0 _ rfl, rsn_new X x 1 _ rfl, rsn_new X x 2 _ rfl, fun _ => frozen_of_row _ _ _ _ _ (heap_alloc_new X _)⟩
theorem RBox.set {X : World} {t : Nat} {x : Rsn} (h : RBox X t x) (y : Rsn) : RBox (((X.setCell ⟨t, 0, none⟩ (.int .i64 y.1)).setCell ⟨t, 1, none⟩ (.int .i64 y.2.1)).setCell ⟨t, 2, none⟩ (.int .u8 y.2.2)) t y :=
  ⟨cell_set_off (cell_set_off (cell_set_same h.c0) (by omega)) (by omega), cell_set_off (cell_set_same (cell_set_off h.c1 (by omega))) (by omega), cell_set_same (cell_set_off (cell_set_off h.c2 (by omega)) (by omega)),
   fun o => by rw [World.frozen?_setCell, World.frozen?_setCell, World.frozen?_setCell]; exact h.fz o⟩

set_option maxHeartbeats 4000000 in
theorem RReasons_ok (o : Prob) (ao bo : Option Addr) (ca cb : Nat) (dry : Int) (l : List Int) (lo : Option Addr) (c : Nat) (w : World) (ho : IsProb w o ao bo) (hl : Ints w lo l) (hll : l.length < 1152921504606846976) (hlc : l.length ≤ c) (h : datErr o dry l = 0) :
    Calls Try.prog 43 #[probV o ao ca bo cb, .int .i64 dry, .slice lo l.length c] w (ReasonsPost (reasonsL (webOf o) dry l) 0 w) := by
  have HO := Lib.hid ho
  have HL := Lib.hid hl
  have H := Lib.hid h
  have HLL := Lib.hid hll
  have HLC := Lib.hid hlc
  obtain ⟨h1, hdry, h3⟩ := datErr_ok h
  obtain ⟨hlen, hin, hnd⟩ := ordered_facts h3
  have hn := webOf_n h1
  have HLEN := Lib.hid hlen
  have HIN := Lib.hid hin
  have HND := Lib.hid hnd
  have HDRY := Lib.hid hdry
  have HNN := Lib.hid (webOf_nI h1)
  have HC := Lib.hid h1
  have hrow := daysOf_row (W := webOf o) (dry := dry) hdry (l := l) (by omega)
  have HROW := Lib.hid hrow
  have HNEAR : Hid (∀ a b : Nat, nearR o a b = hasS ((webOf o).near b) a) := Lib.hid (nearR_eq h1)
  have hl24 : l.length ≤ 24 := by omega
  clear ho hl h h1 h3 hin hnd hrow hlen hll hlc
  go_enter Try.func43, Try.ntmps43
  go_wp2_with fail
  obtain ⟨w0, e0, hk0, hb0, -⟩ := alloc_prob w o.N o.arcs o.near ao ca bo cb
  rw [e0]
  clear e0
  have HK0 := Lib.hid hk0
  have HB0 := Lib.hid hb0
  clear hk0
  obtain ⟨q0, q1, q2⟩ := hb0
  have qb := lt_of_cell q0
  go_wp2_with fail
  clear q0 q1 q2 qb
  have hF := Rdried_any o ao bo ca cb dry l lo c w0 (HO.out.kept HK0.out) (HL.out.kept HK0.out) HLL.out HLC.out
  rw [H.out] at hF
  refine hF.mono ?_
  clear hF
  rintro e w1 ⟨rfl, hk1⟩
  have HK1 := Lib.hid (HK0.out.trans hk1)
  have HB1 := Lib.hid (HB0.out.kept hk1)
  clear hk1 HK0 HB0
  obtain ⟨q0, q1, q2⟩ := HB1.out
  have qb := lt_of_cell q0
  by_cases hz0 : o.N = 0
  · have e0 : (o.N == 0) = true := by simp [hz0]
    have HX : Hid (reasonsL (webOf o) dry l = []) := Lib.hid (by
      have : l.length = 0 := by have := HLEN.out; have := HNN.out; omega
      unfold reasonsL
      rw [this]
      rfl)
    clear hz0
    go_wp2
    go_ret2
    rw [HX.out]
    exact ⟨_, rfl, OwnG.nil _ _ _ _ _, HK1.out⟩
  · have e0 : (o.N == 0) = false := by simp [hz0]
    have HL0 : Hid (0 < l.length) := Lib.hid (by have := HLEN.out; have := HNN.out; omega)
    have HF : Hid (∀ X, Kept w X → _) := Lib.hid fun X hk => Rdays_any o ao bo ca cb dry l lo c X (HO.out.kept hk) (HL.out.kept hk) HC.out HLEN.out HIN.out HDRY.out.1 HDRY.out.2
    clear hz0
    go_wp2_with fail
    clear q0 q1 q2 qb
    refine (HF.out w1 HK1.out).mono ?_
    clear HF
    rintro e w2 ⟨g, rfl, hg, harr, hk2⟩
    have HA2 := Lib.hid harr
    have HG2 := Lib.hid (Nat.le_trans HK1.out.size hg)
    have HB2 := Lib.hid (HB1.out.kept hk2)
    have HK2 := Lib.hid (HK1.out.trans hk2)
    clear hg harr hk2 HK1 HB1
    have HT : Hid (reasonsL (webOf o) dry l = rsnL (webOf o) dry l (daysOf (webOf o) dry l) l.length (l.length - 1)) := Lib.hid (by unfold reasonsL; rfl)
    have HWB : Hid (∀ i, i < l.length → (daysOf (webOf o) dry l).getD (l.getD i 0).toNat 0 ≠ 0 → 0 < i ∧ (whyR (webOf o) dry l (daysOf (webOf o) dry l) i).2.1 ∈ l ∧ l.idxOf (whyR (webOf o) dry l (daysOf (webOf o) dry l) i).2.1 < i) :=
      fun i hi h0 => why_back HDRY.out.1 HLEN.out HIN.out HND.out hi h0
    have HWE : Hid (∀ {k : Nat}, k < l.length → 0 < k → ∀ {x : Rsn} {next : Nat}, whyI (webOf o) dry l (daysOf (webOf o) dry l) k k x next → x = whyR (webOf o) dry l (daysOf (webOf o) dry l) k ∧ next = l.idxOf (whyR (webOf o) dry l (daysOf (webOf o) dry l) k).2.1) :=
      fun hk h0 _ _ h => whyI_end HDRY.out.1 HLEN.out HIN.out HND.out hk h0 h
    generalize reasonsL (webOf o) dry l = total at *
    generalize daysOf (webOf o) dry l = D at *
    generalize webOf o = W at *
    have hdl := HROW.out.1
    have hwl : IntKind.i64.wrap ((l.length : Int) - 1) = (l.length : Int) - 1 := IntWalk.i64_in _ (by omega)
    clear e0
    go_wp2
    clear hwl
    go_loopg [10, 11] l.length (fun f out x wr => ∃ (i : Nat) (rs : List Rsn), x = .int .i64 (i : Int) ∧ i < f ∧ f ≤ l.length ∧ OwnG wr w2.heap.size 44 3 rsnC out rs ∧ rs.length + f ≤ l.length ∧ Kept w2 wr ∧ rs ++ rsnL W dry l D f i = total)
    case atStart =>
      have h0 := HL0.out
      refine ⟨l.length - 1, [], by congr 1; omega, by omega, Nat.le_refl _, OwnG.nil _ _ _ _ _, by simp, Kept.refl _, ?_⟩
      rw [HT.out, List.nil_append]
    case round =>
      obtain ⟨k, rs, rfl, hif, hfl, hown, hrl, hk, hrs⟩ := hrel
      have HOWN := Lib.hid hown
      have HRL := Lib.hid hrl
      have HK := Lib.hid hk
      have HRS := Lib.hid hrs
      have HFL := Lib.hid hfl
      obtain ⟨f, rfl⟩ : ∃ f, gk = f + 1 := ⟨gk - 1, by omega⟩
      clear hown hrl hk hrs hfl
      have hkl : k < l.length := by have := HFL.out; omega
      obtain ⟨p, hp1, hpn, hp2⟩ := getD_nat HIN.out hkl
      obtain ⟨B, off, rfl, hc⟩ := (HL.out.kept (HK2.out.trans HK.out)) k hkl
      rw [hp2] at hc
      have hpd : p < D.length := by rw [hdl]; exact hpn
      have hgp := (HA2.out.kept HK.out).get p hpd
      have hDp : D.getD p 0 = D[p] := by rw [List.getD_eq_getElem?_getD, List.getElem?_eq_getElem hpd]; rfl
      have hrow := HROW.out.getD (by omega) p
      rw [hDp] at hrow
      generalize D[p] = dp at hgp hDp hrow
      have HTT : Hid (rs ++ rsnL W dry l D (f + 1) k = total) := HRS
      have HDP := Lib.hid hDp
      have HP1 := Lib.hid hp1
      have HP2 := Lib.hid hp2
      have hpi : (p : Int) < W.n := by omega
      have hki : (k : Int) < l.length := by omega
      clear hDp hp1 hp2 hpd
      by_cases hz : dp = 0
      · have HZ := Lib.hid hz
        have hb : (dp == 0) = true := by simp [hz]
        clear hz
        go_wp2_with (at_builtin; refine append_g _ rfl _ _ 38 rfl w2.heap.size 44 3 24 _ rsnC rsnC_len rsnC_one Try.underlying38 info44 rfl (by decide) (by decide) u10 rs rfl (HOWN.out.kept ((Kept.refl _).alloc _)) wr.heap.size 1 [((p : Int), -1, 0)] rfl (rsn_new wr ((p : Int), -1, 0)) (by have := HRL.out; have := HLEN.out; simp only [List.length_cons, List.length_nil]; omega) (by have := HK.out.size; simp; omega) ?_; intro v' w3 hown2 hg2 _; have HO2 := Lib.hid hown2; have HG3 := Lib.hid hg2; clear hown2 hg2)
        go_ret2
        have e3 : total = rs ++ [((p : Int), -1, 0)] := by rw [← HTT.out, rsnL_zero HP1.out (HDP.out.trans HZ.out)]
        rw [e3]
        exact ⟨_, rfl, HO2.out.base' HK2.out.size, Kept.ownG (((HK2.out.trans HK.out).alloc _)) (HOWN.out.kept ((Kept.refl _).alloc _)) HG3.out HK2.out.size⟩
      · have HZ := Lib.hid hz
        have hb : (dp == 0) = false := by simp [hz]
        obtain ⟨hpos, hwm, hwi⟩ := HWB.out k hkl (by rw [HP1.out, Int.toNat_natCast, HDP.out]; exact hz)
        have HPOS := Lib.hid hpos
        obtain ⟨k1, rfl⟩ : ∃ k1, k = k1 + 1 := ⟨k - 1, by omega⟩
        have hk1l : k1 < l.length := by omega
        obtain ⟨p', hp1', hpn', hp2'⟩ := getD_nat HIN.out hk1l
        obtain ⟨B', off', e', hc'⟩ := (HL.out.kept (HK2.out.trans HK.out)) k1 hk1l
        simp only [Option.some.injEq, Addr.mk.injEq] at e'
        obtain ⟨rfl, rfl, -⟩ := e'
        rw [hp2'] at hc'
        have HP1' := Lib.hid hp1'
        have HWI := Lib.hid hwi
        have hwk : IntKind.i64.wrap (k1 : Int) = (k1 : Int) := IntWalk.i64_in _ (by omega)
        have hk1i : (k1 : Int) < l.length := by omega
        have hk11 : (k1 : Int) + 1 < l.length := by omega
        have hk10 : (0 : Int) ≤ (k1 : Int) + 1 := by omega
        have hk1n : ((k1 : Int) + 1).toNat = k1 + 1 := by omega
        have HKL := Lib.hid hkl
        have HBX : Hid (RBox (wr.alloc (.cells #[.int .i64 p, .int .i64 p', .int .u8 1] 44)) wr.heap.size ((p : Int), (p' : Int), 1)) := Lib.hid (RBox.new wr ((p : Int), (p' : Int), 1))
        have HKA : Hid (Kept wr (wr.alloc (.cells #[.int .i64 p, .int .i64 p', .int .u8 1] 44))) := Lib.hid ((Kept.refl wr).alloc _)
        have HSZ : Hid (wr.heap.size < (wr.alloc (.cells #[.int .i64 p, .int .i64 p', .int .u8 1] 44)).heap.size) := Lib.hid (by simp)
        clear hz hwm hwi hp1' hp2' hpos
        go_wp2
        generalize (wr.alloc (.cells #[.int .i64 p, .int .i64 p', .int .u8 1] 44)) = wa at *
        obtain ⟨t, ht⟩ : ∃ t, wr.heap.size = t := ⟨_, rfl⟩
        rw [ht] at HBX HSZ ⊢
        have HT' := Lib.hid ht
        clear hc hc' hgp ht hwk
        generalize wr = wo at *
        go_loopg [14, 15] (k1 + 1) (fun gj nx j wi => ∃ (j' nx' : Nat) (x : Rsn), j = .int .i64 (j' : Int) ∧ nx = .int .i64 (nx' : Int) ∧ j' + gj = k1 + 1 ∧ Kept wo wi ∧ RBox wi t x ∧ whyI W dry l D (k1 + 1) j' x nx')
        case atStart => exact ⟨0, k1, ((p : Int), (p' : Int), 1), rfl, rfl, by omega, HKA.out, HBX.out, by have := whyI_zero (W := W) (dry := dry) (l := l) (k1 + 1) D; rw [HP1.out, show k1 + 1 - 1 = k1 by omega, HP1'.out] at this; exact this⟩
        case round =>
          clear HKA HBX HSZ
          obtain ⟨j, nx, x, rfl, rfl, hj, hkw, hbx, hwhy⟩ := hrel
          have HJ := Lib.hid hj
          clear hj
          have HKW := Lib.hid hkw
          have HBX := Lib.hid hbx
          have HWY := Lib.hid hwhy
          clear hkw hbx hwhy
          by_cases hjlt : j < k1 + 1
          · have hjl : j < l.length := by omega
            have HJL := Lib.hid hjlt
            obtain ⟨q, hq1, hqn, hq2⟩ := getD_nat HIN.out hjl
            have KALL : Hid (Kept w2 wr) := HK.out.trans HKW.out
            obtain ⟨B', off', e', hcj⟩ := (HL.out.kept (HK2.out.trans KALL.out)) j hjl
            simp only [Option.some.injEq, Addr.mk.injEq] at e'
            obtain ⟨rfl, rfl, -⟩ := e'
            rw [hq2] at hcj
            have hji : (j : Int) < (k1 : Int) + 1 := by omega
            have HQ1 := Lib.hid hq1
            have HQN := Lib.hid hqn
            have HPN := Lib.hid hpn
            obtain ⟨q0, q1, q2⟩ := HB2.out.kept KALL.out
            have qb := lt_of_cell q0
            clear hq1 hq2 hpn hqn
            go_wp2
            refine region_tail 6 (by kernel_rfl) (by kernel_rfl) ?_
            simp only [List.take_succ_cons, List.take_zero, List.drop_succ_cons, List.drop_zero]
            iterate 6
              with_reducible refine wpStill_want ?_ (fun K hK => ?_)
              · rfl
              go_simp
              refine hK _ ?_
              clear hK K
            with_reducible refine wpStill_nil ?_
            go_wp2_with fail
            clear q0 q1 q2 qb
            have hF := Rnear_any o ao bo ca cb (q : Int) (p : Int) wr.drew (HO.out.kept ((HK2.out.trans KALL.out).drew))
            rw [HNEAR.out] at hF
            refine hF.mono ?_
            clear hF
            rintro e w4 ⟨rfl, hk4⟩
            have HK4 := Lib.hid (HKW.out.drew.trans hk4)
            have KALL4 : Hid (Kept w2 w4) := KALL.out.drew.trans hk4
            have HBX4 := Lib.hid ((HBX.out.kept (Kept.refl _).drew).kept hk4)
            have hcj := ((Kept.refl wr).drew.trans hk4).cell hcj
            have hpd : p < D.length := by rw [hdl]; exact HPN.out
            have hqd : q < D.length := by rw [hdl]; exact HQN.out
            have hgp := (HA2.out.kept KALL4.out).get p hpd
            have hgq := (HA2.out.kept KALL4.out).get q hqd
            have hDq : D.getD q 0 = D[q] := by rw [List.getD_eq_getElem?_getD, List.getElem?_eq_getElem hqd]; rfl
            have hDp : D[p] = dp := by have := HDP.out; rw [List.getD_eq_getElem?_getD, List.getElem?_eq_getElem hpd] at this; exact this
            rw [hDp] at hgp
            have hrowq := HROW.out.getD (by omega) q
            rw [hDq] at hrowq
            generalize D[q] = dq at hgq hDq hrowq
            have HDQ := Lib.hid hDq
            have hdd := HDRY.out
            have hw1 : IntKind.i64.wrap (dq + dry) = dq + dry := IntWalk.i64_in _ (by omega)
            have hw2 : IntKind.i64.wrap (dq + dry + 1) = dq + dry + 1 := IntWalk.i64_in _ (by omega)
            have hqi : (q : Int) < W.n := by have := HQN.out; omega
            have HOLDS : Hid (holds W dry l D (k1 + 1) j ↔ hasS (W.near p) q = true ∧ dq + dry + 1 = dp) := Lib.hid (by
              unfold holds
              rw [HP1.out, HQ1.out, Int.toNat_natCast, Int.toNat_natCast, HDP.out, HDQ.out])
            obtain ⟨xa, xb, xc⟩ := x
            obtain ⟨b0, b1, b2, bf⟩ := HBX4.out
            have hf0 := bf 0
            have hf1 := bf 1
            have hf2 := bf 2
            have tb := lt_of_cell b0
            simp only [] at b0 b1 b2
            have HXC : Hid (xa = (p : Int)) := Lib.hid (by
              rcases HWY.out with ⟨h1, _, _⟩ | ⟨m, _, _, h1, _, _⟩
              · have := congrArg Prod.fst h1; simp only at this; rw [this, HP1.out]
              · have := congrArg Prod.fst h1; simp only at this; rw [this, HP1.out])
            clear hk4 HBX hDq hDp hpd hqd hdd hrowq bf
            cases hh : hasS (W.near p) q
            · have HH := Lib.hid hh
              have HY2 := Lib.hid (whyI_no HWY.out (fun h => by have := (HOLDS.out.1 h).1; rw [HH.out] at this; cases this))
              clear hh
              go_wp2
              refine region_tail 31 (by kernel_rfl) (by kernel_rfl) ?_
              simp only [List.take_succ_cons, List.take_zero, List.drop_succ_cons, List.drop_zero]
              iterate 2
                with_reducible refine wpStill_want ?_ (fun K hK => ?_)
                · rfl
                go_simp
                refine hK _ ?_
                clear hK K
              iterate 15
                with_reducible refine wpStill_skip ?_ ?_
                · rfl
                simp only [Act.put, List.setIfInBounds_toArray, List.set_cons_zero, List.set_cons_succ]
              iterate 2
                with_reducible refine wpStill_want ?_ (fun K hK => ?_)
                · rfl
                go_simp
                refine hK _ ?_
                clear hK K
              iterate 12
                with_reducible refine wpStill_skip ?_ ?_
                · rfl
                simp only [Act.put, List.setIfInBounds_toArray, List.set_cons_zero, List.set_cons_succ]
              with_reducible refine wpStill_nil ?_
              go_wp2
              go_roundg (gk - 1)
              case measure => have := HJ.out; have := HJL.out; omega
              case rel => exact ⟨j + 1, nx, (xa, xb, xc), by go_num, rfl, by have := HJ.out; have := HJL.out; omega, HK4.out.drew, HBX4.out.kept (Kept.refl _).drew, HY2.out⟩
            · have HH := Lib.hid hh
              clear hh
              by_cases heq : dq + dry + 1 = dp
              · have e5 : (dq + dry + 1 == dp) = true := by simp [heq]
                have HHO : Hid (holds W dry l D (k1 + 1) j) := Lib.hid (HOLDS.out.2 ⟨HH.out, heq⟩)
                clear heq
                by_cases hx1 : xc = 1
                · have e6 : (xc == 1) = true := by simp [hx1]
                  have HY2 := Lib.hid (whyI_yes HWY.out HHO.out (.inl hx1))
                  clear hx1
                  go_wp2
                  refine region_tail 31 (by kernel_rfl) (by kernel_rfl) ?_
                  simp only [List.take_succ_cons, List.take_zero, List.drop_succ_cons, List.drop_zero]
                  iterate 23
                    with_reducible refine wpStill_want ?_ (fun K hK => ?_)
                    · rfl
                    go_simp
                    refine hK _ ?_
                    clear hK K
                  iterate 7
                    with_reducible refine wpStill_skip ?_ ?_
                    · rfl
                    simp only [Act.put, List.setIfInBounds_toArray, List.set_cons_zero, List.set_cons_succ]
                  iterate 1
                    with_reducible refine wpStill_want ?_ (fun K hK => ?_)
                    · rfl
                    go_simp
                    refine hK _ ?_
                    clear hK K
                  with_reducible refine wpStill_nil ?_
                  go_wp2
                  go_roundg (gk - 1)
                  case measure => have := HJ.out; have := HJL.out; omega
                  case rel =>
                    have hy := HY2.out
                    rw [HP1.out, HQ1.out] at hy
                    exact ⟨j + 1, j, ((p : Int), (q : Int), 2), by go_num, rfl, by have := HJ.out; have := HJL.out; omega, ((HK4.out.drew.setCell (p := ⟨t, 0, none⟩) (Nat.le_of_eq HT'.out) _).setCell (p := ⟨t, 1, none⟩) (Nat.le_of_eq HT'.out) _).setCell (p := ⟨t, 2, none⟩) (Nat.le_of_eq HT'.out) _, (HBX4.out.kept (Kept.refl _).drew).set ((p : Int), (q : Int), 2), hy⟩
                · have e6 : (xc == 1) = false := by simp [hx1]
                  by_cases hlt2 : (q : Int) < xb
                  · have e7 : decide ((q : Int) < xb) = true := decide_eq_true hlt2
                    have HY2 := Lib.hid (whyI_yes HWY.out HHO.out (.inr (by rw [HQ1.out]; exact hlt2)))
                    clear hx1 hlt2
                    go_wp2
                    refine region_tail 31 (by kernel_rfl) (by kernel_rfl) ?_
                    simp only [List.take_succ_cons, List.take_zero, List.drop_succ_cons, List.drop_zero]
                    iterate 31
                      with_reducible refine wpStill_want ?_ (fun K hK => ?_)
                      · rfl
                      go_simp
                      refine hK _ ?_
                      clear hK K
                    with_reducible refine wpStill_nil ?_
                    go_wp2
                    go_roundg (gk - 1)
                    case measure => have := HJ.out; have := HJL.out; omega
                    case rel =>
                      have hy := HY2.out
                      rw [HP1.out, HQ1.out] at hy
                      exact ⟨j + 1, j, ((p : Int), (q : Int), 2), by go_num, rfl, by have := HJ.out; have := HJL.out; omega, ((HK4.out.drew.setCell (p := ⟨t, 0, none⟩) (Nat.le_of_eq HT'.out) _).setCell (p := ⟨t, 1, none⟩) (Nat.le_of_eq HT'.out) _).setCell (p := ⟨t, 2, none⟩) (Nat.le_of_eq HT'.out) _, (HBX4.out.kept (Kept.refl _).drew).set ((p : Int), (q : Int), 2), hy⟩
                  · have e7 : decide ((q : Int) < xb) = false := decide_eq_false hlt2
                    have HY2 := Lib.hid (whyI_keep HWY.out (fun h => by
                      rcases h with h | h
                      · exact hx1 h
                      · rw [HQ1.out] at h; exact hlt2 h))
                    clear hx1 hlt2
                    go_wp2
                    refine region_tail 31 (by kernel_rfl) (by kernel_rfl) ?_
                    simp only [List.take_succ_cons, List.take_zero, List.drop_succ_cons, List.drop_zero]
                    iterate 31
                      with_reducible refine wpStill_want ?_ (fun K hK => ?_)
                      · rfl
                      go_simp
                      refine hK _ ?_
                      clear hK K
                    with_reducible refine wpStill_nil ?_
                    go_wp2
                    go_roundg (gk - 1)
                    case measure => have := HJ.out; have := HJL.out; omega
                    case rel => exact ⟨j + 1, nx, (xa, xb, xc), by go_num, rfl, by have := HJ.out; have := HJL.out; omega, HK4.out.drew, HBX4.out.kept (Kept.refl _).drew, HY2.out⟩
              · have e5 : (dq + dry + 1 == dp) = false := by simp [heq]
                have HY2 := Lib.hid (whyI_no HWY.out (fun h => heq (HOLDS.out.1 h).2))
                clear heq
                go_wp2
                refine region_tail 31 (by kernel_rfl) (by kernel_rfl) ?_
                simp only [List.take_succ_cons, List.take_zero, List.drop_succ_cons, List.drop_zero]
                iterate 19
                  with_reducible refine wpStill_want ?_ (fun K hK => ?_)
                  · rfl
                  go_simp
                  refine hK _ ?_
                  clear hK K
                iterate 12
                  with_reducible refine wpStill_skip ?_ ?_
                  · rfl
                  simp only [Act.put, List.setIfInBounds_toArray, List.set_cons_zero, List.set_cons_succ]
                with_reducible refine wpStill_nil ?_
                go_wp2
                go_roundg (gk - 1)
                case measure => have := HJ.out; have := HJL.out; omega
                case rel => exact ⟨j + 1, nx, (xa, xb, xc), by go_num, rfl, by have := HJ.out; have := HJL.out; omega, HK4.out.drew, HBX4.out.kept (Kept.refl _).drew, HY2.out⟩
          · have hje : j = k1 + 1 := by have := HJ.out; omega
            subst hje
            obtain ⟨hx, hnx⟩ := HWE.out HKL.out (by omega) HWY.out
            have HX := Lib.hid hx
            have HNX := Lib.hid hnx
            obtain ⟨xa, xb, xc⟩ := x
            obtain ⟨b0, b1, b2, bf⟩ := HBX.out
            simp only [] at b0 b1 b2
            have tb := lt_of_cell b0
            have hnk : nx < k1 + 1 := by rw [hnx]; exact HWI.out
            clear hx hnx hjlt bf
            go_wp2_with (at_builtin; refine append_g _ rfl _ _ 38 rfl w2.heap.size 44 3 24 _ rsnC rsnC_len rsnC_one Try.underlying38 info44 rfl (by decide) (by decide) u10 rs rfl ((HOWN.out.kept HKW.out).kept ((Kept.refl _).alloc _)) wr.heap.size 1 [(xa, xb, xc)] rfl (rsn_new wr (xa, xb, xc)) (by have := HRL.out; have := HLEN.out; simp only [List.length_cons, List.length_nil]; omega) (by have := HK.out.size; have := HKW.out.size; simp; omega) ?_; intro v' w3 hown2 hg2 _; have HO2 := Lib.hid hown2; have HKW3 := Lib.hid (Kept.ownG (((HK.out.trans HKW.out).alloc _)) ((HOWN.out.kept HKW.out).kept ((Kept.refl _).alloc _)) hg2 (Nat.le_refl _)); clear hown2 hg2)
            go_roundg f
            case measure => omega
            case rel =>
              refine ⟨nx, rs ++ [(xa, xb, xc)], rfl, by omega, by have := HFL.out; omega, HO2.out, by have := HRL.out; simp only [List.length_append, List.length_cons, List.length_nil]; omega, HKW3.out, ?_⟩
              rw [← HTT.out, rsnL_some HP1.out (by rw [HDP.out]; exact HZ.out), HX.out, HNX.out, List.append_assoc]
              rfl
end Go.Proofs.Yteljjkghjbofnaa
