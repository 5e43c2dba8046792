/- Reasons. -/
import Derived.Test.YteljjkghjbofnaaWt
import Derived.WalkMore
set_option maxRecDepth 100000
namespace Go.Proofs.Yteljjkghjbofnaa
open Go Go.Proofs Go.RowKit
attribute [local go_sem] Oper.semAt_some

def ReasonsR (o : Prob) (dry : Int) (l : List Int) : List Rsn × Int := if datErr o dry l = 0 then (reasonsL (webOf o) dry l, 0) else ([], datErr o dry l)
def ReasonsPost (rs : List Rsn) (err : Int) (w : World) (e : Ending) (w' : World) : Prop := ∃ v, e = .returned (.tuple #[v, .int .i64 err]) ∧ OwnG w' w.heap.size 44 3 rsnC v rs ∧ Kept w w'

theorem rsnC_len (r : Rsn) : (rsnC r).length = 3 := rfl
theorem rsnC_one (r : Rsn) : ∀ u ∈ rsnC r, u.oneCell' = true := fun u hu => by
  simp [rsnC] at hu
  rcases hu with rfl | rfl | rfl <;> rfl
theorem OwnG.base' {α : Type} {X : World} {base base' e size : Nat} {cs : α → List Value} {v : Value} {l : List α} (h : OwnG X base e size cs v l) (hb : base' ≤ base) : OwnG X base' e size cs v l := by
  refine ⟨h.1, ?_⟩
  rcases h.2 with hn | ⟨g, cap, cur, rfl, hb', rest⟩
  · exact .inl hn
  · exact .inr ⟨g, cap, cur, rfl, by omega, rest⟩

theorem datErr_ok {o : Prob} {dry : Int} {l : List Int} (h : datErr o dry l = 0) : chk o = 0 ∧ (0 ≤ dry ∧ dry ≤ 30) ∧ orderedB (webOf o) l = true := by
  unfold datErr at h
  split at h
  · rename_i h1
    split at h
    · rename_i h2; exact ⟨h1, h2⟩
    · cases h
  · rename_i h1; exact absurd h h1

theorem rsn_new (w : World) (r : Rsn) (j : Nat) (u : Value) (h : ([r].flatMap rsnC)[j]? = some u) : (w.alloc (.cells #[.int .i64 r.1, .int .i64 r.2.1, .int .u8 r.2.2] 44)).cell? ⟨w.heap.size, j, none⟩ = some u := by
  rw [cell_of_row _ _ _ _ _ _ (heap_alloc_new w (.cells #[.int .i64 r.1, .int .i64 r.2.1, .int .u8 r.2.2] 44))]
  simpa [rsnC] using h
theorem rsn_newD (X : World) (n : Nat) (hX : X.heap.size = n) (r : Rsn) (j : Nat) (u : Value) (h : ([r].flatMap rsnC)[j]? = some u) : ((X.alloc (.cells #[.int .i64 r.1, .int .i64 r.2.1, .int .u8 r.2.2] 44)).drew).cell? ⟨n, j, none⟩ = some u := by
  subst hX
  exact rsn_new X r j u h
theorem rsnL_zero {W : Web} {dry : Int} {l D : List Int} {f k p : Nat} (hp : l.getD k 0 = (p : Int)) (h : D.getD p 0 = 0) : rsnL W dry l D (f + 1) k = [((p : Int), -1, 0)] := by
  unfold rsnL
  rw [hp, Int.toNat_natCast, if_pos h]
theorem rsnL_some {W : Web} {dry : Int} {l D : List Int} {f k p : Nat} (hp : l.getD k 0 = (p : Int)) (h : D.getD p 0 ≠ 0) : rsnL W dry l D (f + 1) k = whyR W dry l D k :: rsnL W dry l D f (l.idxOf (whyR W dry l D k).2.1) := by
  conv => lhs; unfold rsnL
  rw [hp, Int.toNat_natCast, if_neg h]
theorem Kept.ownG {α : Type} {w X Y : World} {base e size : Nat} {cs : α → List Value} {v : Value} {l : List α} (h : Kept w X) (hown : OwnG X base e size cs v l) (hg : X.grownBy Y v.ownBlock) (hb : w.heap.size ≤ base) : Kept w Y :=
  h.grown hg (fun r e => Nat.le_trans hb (hown.lt r e).1)

theorem wpStill_skip {P : Program} {ops : Array Oper} {w : World} {Q : Act → Prop} {a : Act} {o : Oper} {rest : List Oper} (hw : Region.wanted o (yielded ops a.tmps) = false) (h : wpStill P ops w Q rest (a.put o.dst undef)) : wpStill P ops w Q (o :: rest) a := by
  unfold wpStill
  rw [if_neg (by rw [hw]; simp)]
  exact h
theorem wpStill_want {P : Program} {ops : Array Oper} {w : World} {Q : Act → Prop} {a : Act} {o : Oper} {rest : List Oper} (hw : Region.wanted o (yielded ops a.tmps) = true) (h : ∀ K : Act → Prop, (∀ a, wpStill P ops w Q rest a → K a) → o.still P a w K) : wpStill P ops w Q (o :: rest) a := by
  unfold wpStill
  rw [if_pos hw]
  exact h _ (fun _ h => h)

set_option maxHeartbeats 1600000 in
theorem Reasons_ok (o : Prob) (ao bo : Option Addr) (ca cb : Nat) (dry : Int) (l : List Int) (lo : Option Addr) (c : Nat) (w : World) (ho : IsProb w o ao bo) (hl : Ints w lo l) (hll : l.length < 1152921504606846976) (hlc : l.length ≤ c) (h : datErr o dry l = 0) :
    Calls Try.prog 31 #[probV o ao ca bo cb, .int .i64 dry, .slice lo l.length c] w (ReasonsPost (reasonsL (webOf o) dry l) 0 w) := by
  have HO := Lib.hid ho
  have HL := Lib.hid hl
  have H := Lib.hid h
  obtain ⟨h1, hdry, h3⟩ := datErr_ok h
  obtain ⟨hlen, hin, hnd⟩ := ordered_facts h3
  have hn := webOf_n h1
  have HLEN := Lib.hid hlen
  have HIN := Lib.hid hin
  have HND := Lib.hid hnd
  have hrow := daysOf_row (W := webOf o) (dry := dry) hdry (l := l) (by omega)
  have HROW := Lib.hid hrow
  clear ho hl h h1 h3 hin hnd hrow hlen
  go_enter Try.func31, Try.ntmps31
  go_wp2_with fail
  obtain ⟨w0, e0, hk0, -, -⟩ := alloc_prob w o.N o.arcs o.near ao ca bo cb
  rw [e0]
  clear e0
  have HK0 := Lib.hid hk0
  clear hk0
  refine (dated_ok o ao bo ca cb dry l lo c w0 (HO.out.kept HK0.out) (HL.out.kept HK0.out) hll hlc H.out).mono ?_
  rintro e w1 ⟨b, g, rfl, hw1, hg, harr, hk1⟩
  have HW1 := Lib.hid hw1
  have HA1 := Lib.hid harr
  have HG1 := Lib.hid (Nat.le_trans HK0.out.size hg)
  have HK1 := Lib.hid (HK0.out.trans hk1)
  clear hw1 hg harr hk1 HK0 HO H w0
  have HT : Hid (reasonsL (webOf o) dry l = rsnL (webOf o) dry l (daysOf (webOf o) dry l) l.length (l.length - 1)) := Lib.hid (by unfold reasonsL; rfl)
  have HWB : Hid (∀ i, i < l.length → (daysOf (webOf o) dry l).getD (l.getD i 0).toNat 0 ≠ 0 → 0 < i ∧ (whyR (webOf o) dry l (daysOf (webOf o) dry l) i).2.1 ∈ l ∧ l.idxOf (whyR (webOf o) dry l (daysOf (webOf o) dry l) i).2.1 < i) :=
    fun i hi h0 => why_back hdry.1 HLEN.out HIN.out HND.out hi h0
  generalize reasonsL (webOf o) dry l = total at *
  generalize daysOf (webOf o) dry l = D at *
  generalize webOf o = W at *
  have hdl := HROW.out.1
  go_wp2
  go_loopg [11, 12] l.length (fun f out x wr => ∃ (i : Int) (rs : List Rsn), x = .int .i64 i ∧ -1 ≤ i ∧ i < (f : Int) ∧ f ≤ l.length ∧ OwnG wr w1.heap.size 44 3 rsnC out rs ∧ rs.length + f ≤ l.length ∧ Kept w1 wr ∧ (0 ≤ i → rs ++ rsnL W dry l D f i.toNat = total) ∧ (i < 0 → l = [] ∧ rs = []))
  case atStart =>
    refine ⟨(l.length : Int) - 1, [], by go_num, by omega, by omega, Nat.le_refl _, OwnG.nil _ _ _ _ _, by simp, Kept.refl _, fun h => ?_, fun h => ⟨List.eq_nil_of_length_eq_zero (by omega), rfl⟩⟩
    rw [HT.out, List.nil_append, show ((l.length : Int) - 1).toNat = l.length - 1 by omega]
  case round =>
    obtain ⟨i, rs, rfl, hi0, hif, hfl, hown, hrl, hk, hrs, hneg⟩ := hrel
    have HOWN := Lib.hid hown
    have HRL := Lib.hid hrl
    have HK := Lib.hid hk
    have HRS := Lib.hid hrs
    have HNEG := Lib.hid hneg
    have HFL := Lib.hid hfl
    clear hown hrl hk hrs hneg hfl
    by_cases hneg0 : i < 0
    · have HN0 := Lib.hid hneg0
      have hdge : decide (i ≥ 0) = false := decide_eq_false (by omega)
      clear hneg0
      go_wp2
      go_ret2
      obtain ⟨e1, e2⟩ := HNEG.out HN0.out
      have e3 : total = rs := by rw [HT.out, e1, e2]; rfl
      rw [e3]
      exact ⟨_, rfl, HOWN.out.base' HK1.out.size, HK1.out.trans HK.out⟩
    · obtain ⟨k, rfl⟩ : ∃ k : Nat, i = (k : Int) := ⟨i.toNat, by omega⟩
      obtain ⟨f, rfl⟩ : ∃ f, gk = f + 1 := ⟨gk - 1, by omega⟩
      have hkl : k < l.length := by have := HFL.out; omega
      have hdge : decide ((k : Int) ≥ 0) = true := decide_eq_true (by omega)
      obtain ⟨p, hp1, hpn, hp2⟩ := getD_nat HIN.out hkl
      obtain ⟨B, off, rfl, hc⟩ := (HL.out.kept (HK1.out.trans HK.out)) k hkl
      rw [hp2] at hc
      have hpd : p < D.length := by rw [hdl]; exact hpn
      have hgp := (HA1.out.kept HK.out).get p hpd
      have hDp : D.getD p 0 = D[p] := by rw [List.getD_eq_getElem?_getD, List.getElem?_eq_getElem hpd]; rfl
      have hrow := HROW.out.getD (by omega) p
      rw [hDp] at hrow
      generalize D[p] = dp at hgp hDp hrow
      have hTT : rs ++ rsnL W dry l D (f + 1) k = total := HRS.out (by omega)
      have HTT := Lib.hid hTT
      have HDP := Lib.hid hDp
      have HP1 := Lib.hid hp1
      have hpi : (p : Int) < W.n := by omega
      have hki : (k : Int) < l.length := by omega
      have hkc : k < c := by omega
      have hpw : (p : Int) < 24 := by omega
      clear hneg0 hTT hDp hp1 hp2 hpd hi0
      by_cases hz : dp = 0
      · have HZ := Lib.hid hz
        have hb : (dp == 0) = true := by simp [hz]
        clear hz
        go_wp2_with (at_builtin; refine append_g _ rfl _ _ 38 rfl w1.heap.size 44 3 24 _ rsnC rsnC_len rsnC_one Try.underlying38 info44 rfl (by decide) (by decide) u11 rs rfl (HOWN.out.kept ((Kept.refl _).alloc _)) wr.heap.size 1 [((p : Int), -1, 0)] rfl (rsn_new wr ((p : Int), -1, 0)) (by have := HRL.out; have := HLEN.out; simp only [List.length_cons, List.length_nil]; omega) (by have := HK.out.size; simp; omega) ?_; intro v' w2 hown2 hg2 _; have HO2 := Lib.hid hown2; have HG2 := Lib.hid hg2; clear hown2 hg2)
        go_ret2
        have e3 : total = rs ++ [((p : Int), -1, 0)] := by rw [← HTT.out, rsnL_zero HP1.out (HDP.out.trans HZ.out)]
        rw [e3]
        exact ⟨_, rfl, HO2.out.base' HK1.out.size, Kept.ownG (((HK1.out.trans HK.out).alloc _)) (HOWN.out.kept ((Kept.refl _).alloc _)) HG2.out HK1.out.size⟩
      · have HZ := Lib.hid hz
        have hb : (dp == 0) = false := by simp [hz]
        obtain ⟨hk0, hwm, hwi⟩ := HWB.out k hkl (by rw [HP1.out, Int.toNat_natCast, HDP.out]; exact hz)
        have hk1l : k - 1 < l.length := by omega
        obtain ⟨p', hp1', hpn', hp2'⟩ := getD_nat HIN.out hk1l
        obtain ⟨B', off', e', hc'⟩ := (HL.out.kept (HK1.out.trans HK.out)) (k - 1) hk1l
        simp only [Option.some.injEq, Addr.mk.injEq] at e'
        obtain ⟨rfl, rfl, -⟩ := e'
        rw [hp2'] at hc'
        have HP1' := Lib.hid hp1'
        have hk1 : (k : Int) - 1 = ((k - 1 : Nat) : Int) := by omega
        have hk1i : ((k - 1 : Nat) : Int) < l.length := by omega
        have HWM := Lib.hid hwm
        have HWI := Lib.hid hwi
        have hwn := (HW1.out.kept HK.out).n
        have hblt := lt_of_cell hwn
        clear hz hwm hwi hp1' hp2'
        go_wp2
        have hbx : Hid ((wr.alloc (.cells #[.int .i64 p, .int .i64 p', .int .u8 1] 44)).cell? ⟨wr.heap.size, 0, none⟩ = some (.int .i64 p) ∧ (wr.alloc (.cells #[.int .i64 p, .int .i64 p', .int .u8 1] 44)).cell? ⟨wr.heap.size, 1, none⟩ = some (.int .i64 p') ∧ (wr.alloc (.cells #[.int .i64 p, .int .i64 p', .int .u8 1] 44)).cell? ⟨wr.heap.size, 2, none⟩ = some (.int .u8 1)) :=
          ⟨rsn_new wr ((p : Int), (p' : Int), 1) 0 _ rfl, rsn_new wr ((p : Int), (p' : Int), 1) 1 _ rfl, rsn_new wr ((p : Int), (p' : Int), 1) 2 _ rfl⟩
        have hfr : Hid (∀ x, (wr.alloc (.cells #[.int .i64 p, .int .i64 p', .int .u8 1] 44)).frozen? ⟨wr.heap.size, x, none⟩ = false) := fun x => frozen_of_row _ _ _ _ _ (heap_alloc_new wr (.cells #[.int .i64 p, .int .i64 p', .int .u8 1] 44))
        have hka : Hid (Kept wr (wr.alloc (.cells #[.int .i64 p, .int .i64 p', .int .u8 1] 44))) := (Kept.refl wr).alloc _
        generalize (wr.alloc (.cells #[.int .i64 p, .int .i64 p', .int .u8 1] 44)) = wa at *
        obtain ⟨t, ht⟩ : ∃ t, wr.heap.size = t := ⟨_, rfl⟩
        rw [ht] at hbx hfr ⊢
        have HT' := Lib.hid ht
        clear hwn hc hc' hgp ht hblt
        generalize wr = wo at *
        go_loopg [57] W.n (fun j q wi => ∃ i : Nat, q = .int .i64 (i : Int) ∧ i + j = W.n ∧ Kept wa wi ∧ ∀ r, r < i → (hasS (W.near p) r && D.getD r 0 + dry + 1 == D.getD p 0) = false)
        case atStart => exact ⟨0, rfl, by omega, Kept.refl _, fun r h => by omega⟩
        case round =>
          obtain ⟨q, rfl, hqj, hki, hno⟩ := hrel
          have HQJ := Lib.hid hqj
          have HKI := Lib.hid hki
          have HNO := Lib.hid hno
          have KX : Hid (Kept wo wr) := hka.out.trans hki
          clear hqj hki hno
          by_cases hlt : q < W.n
          · have KALL : Hid (Kept w1 wr) := HK.out.trans KX.out
            have hq32 : q < 32 := by omega
            have hqi : (q : Int) < W.n := by omega
            have hnr := (HW1.out.kept KALL.out).near p (by omega)
            have hqd : q < D.length := by rw [hdl]; exact hlt
            have hgq := (HA1.out.kept KALL.out).get q hqd
            have hDq : D.getD q 0 = D[q] := by rw [List.getD_eq_getElem?_getD, List.getElem?_eq_getElem hqd]; rfl
            have hrowq := HROW.out.getD (by omega) q
            rw [hDq] at hrowq
            generalize D[q] = dq at hgq hDq hrowq
            have hpd2 : p < D.length := by rw [hdl]; exact hpn
            have hgp2 := (HA1.out.kept KALL.out).get p hpd2
            have e3 : D[p] = dp := by have := HDP.out; rw [List.getD_eq_getElem?_getD, List.getElem?_eq_getElem hpd2] at this; exact this
            rw [e3] at hgp2
            have hw1 : IntKind.i64.wrap (dq + dry) = dq + dry := IntWalk.i64_in _ (by omega)
            have hw2 : IntKind.i64.wrap (dq + dry + 1) = dq + dry + 1 := IntWalk.i64_in _ (by omega)
            have HDQ := Lib.hid hDq
            have BX : Hid (wr.cell? ⟨t, 0, none⟩ = some (.int .i64 p) ∧ wr.cell? ⟨t, 1, none⟩ = some (.int .i64 p') ∧ wr.cell? ⟨t, 2, none⟩ = some (.int .u8 1)) := ⟨HKI.out.cell hbx.out.1, HKI.out.cell hbx.out.2.1, HKI.out.cell hbx.out.2.2⟩
            have FX : Hid (∀ x, wr.frozen? ⟨t, x, none⟩ = false) := fun x => (HKI.out.cells.2 t x (lt_of_cell hbx.out.1)).trans (hfr.out x)
            clear hDq hpd2 e3 hqd
            cases hh : hasS (W.near p) q
            all_goals
              have HH := Lib.hid hh
              clear hh
            · go_wp2
              refine region_tail 21 (by kernel_rfl) (by kernel_rfl) ?_
              simp only [List.take_succ_cons, List.take_zero, List.drop_succ_cons, List.drop_zero]
              repeat still_step
              still_call Calls_still (has_any (W.near p) q _ hq32)
              rw [HH.out]
              still_step
              iterate 12
                with_reducible refine wpStill_skip ?_ ?_
                · rfl
                simp only [Act.put, List.setIfInBounds_toArray, List.set_cons_zero, List.set_cons_succ]
              with_reducible refine wpStill_nil ?_
              go_wp2
              go_roundg (gk - 1)
              case measure => have := HQJ.out; omega
              case rel =>
                refine ⟨q + 1, by go_num, by have := HQJ.out; omega, HKI.out.drew, fun r hr => ?_⟩
                by_cases e : r = q
                · subst e; rw [HH.out]; rfl
                · exact HNO.out r (by omega)
            · cases he : (dq + dry + 1 == dp)
              · go_wp2
                refine region_tail 21 (by kernel_rfl) (by kernel_rfl) ?_
                simp only [List.take_succ_cons, List.take_zero, List.drop_succ_cons, List.drop_zero]
                repeat still_step
                still_call Calls_still (has_any (W.near p) q _ hq32)
                rw [HH.out]
                still_step
                iterate 12
                  with_reducible refine wpStill_want ?_ (fun K hK => ?_)
                  · rfl
                  go_simp
                  refine hK _ ?_
                  clear hK K
                with_reducible refine wpStill_nil ?_
                go_wp2
                go_roundg (gk - 1)
                case measure => have := HQJ.out; omega
                case rel =>
                  refine ⟨q + 1, by go_num, by have := HQJ.out; omega, HKI.out.drew, fun r hr => ?_⟩
                  by_cases e : r = q
                  · subst e; rw [HH.out, HDQ.out, HDP.out]; exact he
                  · exact HNO.out r (by omega)
              · go_wp2
                refine region_tail 21 (by kernel_rfl) (by kernel_rfl) ?_
                simp only [List.take_succ_cons, List.take_zero, List.drop_succ_cons, List.drop_zero]
                repeat still_step
                still_call Calls_still (has_any (W.near p) q _ hq32)
                rw [HH.out]
                still_step
                iterate 12
                  with_reducible refine wpStill_want ?_ (fun K hK => ?_)
                  · rfl
                  go_simp
                  refine hK _ ?_
                  clear hK K
                with_reducible refine wpStill_nil ?_
                have hc0 := BX.out.1
                have hc1 := BX.out.2.1
                have hc2 := BX.out.2.2
                have htl := lt_of_cell hc0
                have hf0 := FX.out 0
                have hf1 := FX.out 1
                have hf2 := FX.out 2
                have WR : Hid (whyR W dry l D k = ((p : Int), (q : Int), 2)) := by
                  show _ = _
                  unfold whyR
                  rw [HP1.out, Int.toNat_natCast, whyQ_some hlt (by rw [HH.out, HDQ.out, HDP.out]; exact he) HNO.out]
                obtain ⟨wS, hwS⟩ : ∃ X, X = ((wr.setCell ⟨t, 0, none⟩ (.int .i64 p)).setCell ⟨t, 1, none⟩ (.int .i64 q)).setCell ⟨t, 2, none⟩ (.int .u8 2) := ⟨_, rfl⟩
                have hkS : Kept wo wS := by
                  have := HT'.out
                  rw [hwS]
                  exact ((KX.out.setCell (p := ⟨t, 0, none⟩) (by simp; omega) _).setCell (p := ⟨t, 1, none⟩) (by simp; omega) _).setCell (p := ⟨t, 2, none⟩) (by simp; omega) _
                have hzS : wS.heap.size = wr.heap.size := by rw [hwS]; simp
                have hcS : wS.cell? ⟨t, 1, none⟩ = some (.int .i64 q) := by
                  rw [hwS]
                  exact cell_set_off (cell_set_same (cell_set_off hc1 (by omega))) (by omega)
                have HWS := Lib.hid hwS
                have HKS := Lib.hid hkS
                have HZS := Lib.hid hzS
                have HCS := Lib.hid hcS
                clear hwS hkS hzS hcS
                go_wp2_with (at_builtin; rw [← HWS.out]; refine append_g _ rfl _ _ 38 rfl w1.heap.size 44 3 24 _ rsnC rsnC_len rsnC_one Try.underlying38 info44 rfl (by decide) (by decide) u11 rs rfl (((HOWN.out.kept HKS.out).kept ((Kept.refl _).alloc _)).kept (Kept.refl _).drew) wr.heap.size 1 [((p : Int), (q : Int), 2)] rfl (rsn_newD _ _ HZS.out ((p : Int), (q : Int), 2)) (by have := HRL.out; have := HLEN.out; simp only [List.length_cons, List.length_nil]; omega) (by have := HK.out.size; have := HKS.out.size; simp; omega) ?_; intro v' w2 hown2 hg2 _; have HO2 := Lib.hid hown2; have HG2 := Lib.hid hg2; have HKW := Lib.hid (Kept.ownG (((HK.out.trans HKS.out).alloc _).drew) (((HOWN.out.kept HKS.out).kept ((Kept.refl _).alloc _)).kept (Kept.refl _).drew) hg2 (Nat.le_refl _)); have hc1' : w2.cell? ⟨t, 1, none⟩ = some (.int .i64 q) := hg2.cell ((((Kept.refl wS).alloc _).drew).cell HCS.out) (fun e => by have h1 := (HOWN.out.lt t e.symm).2; have h2 := HT'.out; omega); clear hown2 hg2 hc0 hc1 hc2 hf0 hf1 hf2)
                go_wp2_with fail
                refine (Index_any l (some ⟨B, off, none⟩) c q w2 hll (HL.out.kept (HK1.out.trans HKW.out)) (by have h := HWM.out; rw [WR.out] at h; exact h)).mono ?_
                rintro e w3 ⟨rfl, rfl⟩
                go_wp2
                go_roundg f
                case measure => omega
                case rel =>
                  have hwi := HWI.out
                  rw [WR.out] at hwi
                  refine ⟨_, rs ++ [((p : Int), (q : Int), 2)], rfl, by omega, by simp only at hwi; omega, by have := HFL.out; omega, HO2.out, by have := HRL.out; simp only [List.length_append, List.length_cons, List.length_nil]; omega, HKW.out, fun _ => ?_, fun h => by omega⟩
                  rw [← HTT.out, rsnL_some HP1.out (by rw [HDP.out]; exact HZ.out), WR.out, List.append_assoc, Int.toNat_natCast]
                  rfl
          · have WR : Hid (whyR W dry l D k = ((p : Int), (p' : Int), 1)) := by
              show _ = _
              unfold whyR
              rw [HP1.out, Int.toNat_natCast, whyQ_none (fun r hr => HNO.out r (by have := HQJ.out; omega)), HP1'.out]
            have BX : Hid (wr.cell? ⟨t, 0, none⟩ = some (.int .i64 p) ∧ wr.cell? ⟨t, 1, none⟩ = some (.int .i64 p') ∧ wr.cell? ⟨t, 2, none⟩ = some (.int .u8 1)) := ⟨HKI.out.cell hbx.out.1, HKI.out.cell hbx.out.2.1, HKI.out.cell hbx.out.2.2⟩
            have hc0 := BX.out.1
            have hc1 := BX.out.2.1
            have hc2 := BX.out.2.2
            have htl := lt_of_cell hc0
            go_wp2_with (at_builtin; refine append_g _ rfl _ _ 38 rfl w1.heap.size 44 3 24 _ rsnC rsnC_len rsnC_one Try.underlying38 info44 rfl (by decide) (by decide) u11 rs rfl ((HOWN.out.kept KX.out).kept ((Kept.refl _).alloc _)) wr.heap.size 1 [((p : Int), (p' : Int), 1)] rfl (rsn_new wr ((p : Int), (p' : Int), 1)) (by have := HRL.out; have := HLEN.out; simp only [List.length_cons, List.length_nil]; omega) (by have := HK.out.size; have := KX.out.size; simp; omega) ?_; intro v' w2 hown2 hg2 _; have HO2 := Lib.hid hown2; have HG2 := Lib.hid hg2; have HKW := Lib.hid (Kept.ownG (((HK.out.trans KX.out).alloc _)) ((HOWN.out.kept KX.out).kept ((Kept.refl _).alloc _)) hg2 (Nat.le_refl _)); have hc1' : w2.cell? ⟨t, 1, none⟩ = some (.int .i64 p') := hg2.cell ((((Kept.refl wr).alloc _)).cell hc1) (fun e => by have h1 := (HOWN.out.lt t e.symm).2; have h2 := HT'.out; omega); clear hown2 hg2 hc0 hc1 hc2)
            go_wp2_with fail
            refine (Index_any l (some ⟨B, off, none⟩) c p' w2 hll (HL.out.kept (HK1.out.trans HKW.out)) (by have h := HWM.out; rw [WR.out] at h; exact h)).mono ?_
            rintro e w3 ⟨rfl, rfl⟩
            go_wp2
            go_roundg f
            case measure => omega
            case rel =>
              have hwi := HWI.out
              rw [WR.out] at hwi
              refine ⟨_, rs ++ [((p : Int), (p' : Int), 1)], rfl, by omega, by simp only at hwi; omega, by have := HFL.out; omega, HO2.out, by have := HRL.out; simp only [List.length_append, List.length_cons, List.length_nil]; omega, HKW.out, fun _ => ?_, fun h => by omega⟩
              rw [← HTT.out, rsnL_some HP1.out (by rw [HDP.out]; exact HZ.out), WR.out, List.append_assoc, Int.toNat_natCast]
              rfl

set_option maxHeartbeats 400000 in
theorem Reasons_any (o : Prob) (ao bo : Option Addr) (ca cb : Nat) (dry : Int) (l : List Int) (lo : Option Addr) (c : Nat) (w : World) (ho : IsProb w o ao bo) (hl : Ints w lo l) (hll : l.length < 1152921504606846976) (hlc : l.length ≤ c) :
    Calls Try.prog 31 #[probV o ao ca bo cb, .int .i64 dry, .slice lo l.length c] w (ReasonsPost (ReasonsR o dry l).1 (ReasonsR o dry l).2 w) := by
  by_cases h : datErr o dry l = 0
  · have hr : ReasonsR o dry l = (reasonsL (webOf o) dry l, 0) := by unfold ReasonsR; rw [if_pos h]
    rw [hr]
    exact Reasons_ok o ao bo ca cb dry l lo c w ho hl hll hlc h
  · have hr : ReasonsR o dry l = ([], datErr o dry l) := by unfold ReasonsR; rw [if_neg h]
    rw [hr]
    have HO := Lib.hid ho
    have HL := Lib.hid hl
    have H := Lib.hid h
    have hb : (datErr o dry l != 0) = true := by simp [h]
    clear hr h ho hl
    go_enter Try.func31, Try.ntmps31
    go_wp2_with fail
    obtain ⟨w0, e0, hk0, hb0, -⟩ := alloc_prob w o.N o.arcs o.near ao ca bo cb
    rw [e0]
    clear e0
    have HK0 := Lib.hid hk0
    clear hk0 hb0
    refine (dated_bad o ao bo ca cb dry l lo c w0 (HO.out.kept HK0.out) (HL.out.kept HK0.out) hll H.out).mono ?_
    rintro e w1 ⟨rfl, hk1⟩
    have HK1 := Lib.hid (HK0.out.trans hk1)
    clear hk1
    go_wp2
    go_ret2
    exact ⟨_, rfl, OwnG.nil _ _ _ _ _, HK1.out⟩
end Go.Proofs.Yteljjkghjbofnaa
