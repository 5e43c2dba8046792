/- ref.dried, ref.days, ref.Days. -/
import Derived.Test.YteljjkghjbofnaaYh
set_option maxRecDepth 100000
namespace Go.Proofs.Yteljjkghjbofnaa
open Go Go.Proofs Go.RowKit
attribute [local go_sem] Oper.semAt_some

set_option maxHeartbeats 800000 in
theorem Rdried_any (o : Prob) (ao bo : Option Addr) (ca cb : Nat) (dry : Int) (l : List Int) (lo : Option Addr) (c : Nat) (w : World) (ho : IsProb w o ao bo) (hl : Ints w lo l) (hll : l.length < 1152921504606846976) (hlc : l.length ≤ c) :
    Calls Try.prog 105 #[probV o ao ca bo cb, .int .i64 dry, .slice lo l.length c] w (Gives (.int .i64 (datErr o dry l)) w) := by
  have HO := Lib.hid ho
  have HL := Lib.hid hl
  clear ho hl
  obtain ⟨er, her⟩ : ∃ er, datErr o dry l = er := ⟨_, rfl⟩
  rw [her]
  have HE := Lib.hid her
  clear her
  go_enter Try.func105, Try.ntmps105
  go_wp2_with fail
  obtain ⟨w0, e0, hk0, hb0, -⟩ := alloc_prob w o.N o.arcs o.near ao ca bo cb
  rw [e0]
  clear e0
  have HK0 := Lib.hid hk0
  have HB0 := Lib.hid hb0
  clear hk0
  obtain ⟨q0, q1, q2⟩ := hb0
  have qb := lt_of_cell q0
  go_wp2_with fail
  clear q0 q1 q2 qb
  refine (RCheck_any o ao bo ca cb w0 (HO.out.kept HK0.out)).mono ?_
  rintro e w1 ⟨rfl, hk1⟩
  have HK1 := Lib.hid (HK0.out.trans hk1)
  have HB1 := Lib.hid (HB0.out.kept hk1)
  clear hk1
  by_cases hc : chk o = 0
  · have HC := Lib.hid hc
    have ho := orderedR_eq hc l
    have HO2 := Lib.hid ho
    rw [hc]
    clear hc ho
    obtain ⟨q0, q1, q2⟩ := HB1.out
    have qb := lt_of_cell q0
    by_cases h1 : 0 ≤ dry
    · by_cases h2 : dry ≤ 30
      · have e1 : decide (0 ≤ dry) = true := decide_eq_true h1
        have e2 : decide (dry ≤ 30) = true := decide_eq_true h2
        have HD : Hid (0 ≤ dry ∧ dry ≤ 30) := Lib.hid ⟨h1, h2⟩
        clear h1 h2
        go_wp2_with fail
        clear q0 q1 q2 qb
        refine (Rordered_any o ao bo ca cb l lo c w1 (HO.out.kept HK1.out) (HL.out.kept HK1.out) hll hlc).mono ?_
        rintro e w2 ⟨rfl, hk2⟩
        have HK2 := Lib.hid (HK1.out.trans hk2)
        clear hk2
        rw [HO2.out]
        cases hb : orderedB (webOf o) l
        · have HX : Hid (1 = er) := Lib.hid (by rw [← HE.out]; unfold datErr; rw [if_pos HC.out, if_neg (fun h => by rw [hb] at h; exact absurd h.2 (by simp))])
          clear hb
          go_wp2
          go_ret
          exact ⟨ret_int HX.out, HK2.out⟩
        · have HX : Hid (0 = er) := Lib.hid (by rw [← HE.out]; unfold datErr; rw [if_pos HC.out, if_pos ⟨HD.out, hb⟩])
          clear hb
          go_wp2
          go_ret
          exact ⟨ret_int HX.out, HK2.out⟩
      · have e1 : decide (0 ≤ dry) = true := decide_eq_true h1
        have e2 : decide (dry ≤ 30) = false := decide_eq_false h2
        have HX : Hid (1 = er) := Lib.hid (by rw [← HE.out]; unfold datErr; rw [if_pos HC.out, if_neg (fun h => h2 h.1.2)])
        clear h1 h2
        go_wp2
        go_ret
        exact ⟨ret_int HX.out, HK1.out⟩
    · have e1 : decide (0 ≤ dry) = false := decide_eq_false h1
      have HX : Hid (1 = er) := Lib.hid (by rw [← HE.out]; unfold datErr; rw [if_pos HC.out, if_neg (fun h => h1 h.1.1)])
      clear h1
      go_wp2
      go_ret
      exact ⟨ret_int HX.out, HK1.out⟩
  · have HX : Hid (chk o = er) := Lib.hid (by rw [← HE.out]; unfold datErr; rw [if_neg hc])
    have hb : (chk o != 0) = true := by simp [hc]
    clear hc
    go_wp2
    go_ret
    exact ⟨ret_int HX.out, HK1.out⟩

set_option maxHeartbeats 2000000 in
theorem Rdays_any (o : Prob) (ao bo : Option Addr) (ca cb : Nat) (dry : Int) (l : List Int) (lo : Option Addr) (c : Nat) (w : World) (ho : IsProb w o ao bo) (hl : Ints w lo l) (hc : chk o = 0) (hlen : l.length = (webOf o).n) (hin : ∀ p ∈ l, 0 ≤ p ∧ p < ((webOf o).n : Int)) (hd0 : 0 ≤ dry) (hd1 : dry ≤ 30) :
    Calls Try.prog 92 #[probV o ao ca bo cb, .int .i64 dry, .slice lo l.length c] w (DaysPost (webOf o).n (daysOf (webOf o) dry l) w) := by
  have HO := Lib.hid ho
  have HL := Lib.hid hl
  have HIN := Lib.hid hin
  have h24 := webOf_n hc
  have hl24 : l.length ≤ 24 := by omega
  have HNN := Lib.hid (webOf_nI hc)
  have HNEAR : Hid (∀ a b : Nat, nearR o a b = hasS ((webOf o).near b) a) := Lib.hid (nearR_eq hc)
  generalize webOf o = W at *
  have hNW := HNN.out
  clear ho hl hin hlen
  go_enter Try.func92, Try.ntmps92
  go_wp2_with (at_make; obtain ⟨w0, e0, hk0, hb0, -⟩ := alloc_prob w o.N o.arcs o.near ao ca bo cb; rw [e0]; clear e0; have HK0 := Lib.hid hk0; have HB0 := Lib.hid hb0; clear hk0 hb0; refine make_ints w0 rfl _ _ rfl W.n (by rw [HNN.out]; rfl) (by rw [HNN.out]; rfl) (by omega) ?_; intro w2 ha2 hk2)
  clear hNW
  have HA2 := Lib.hid ha2
  have HK2 := Lib.hid hk2
  have HG : Hid (w.heap.size ≤ w0.heap.size) := Lib.hid HK0.out.size
  obtain ⟨gg, hgg⟩ : ∃ gg, w0.heap.size = gg := ⟨_, rfl⟩
  rw [hgg] at HA2 HG ⊢
  have HGG := Lib.hid hgg
  clear ha2 hk2 hgg
  have hrow0 : Row W.n (1000 * ((0 : Nat) : Int)) (List.replicate W.n 0) := ⟨by simp, fun x hx => by have := List.eq_of_mem_replicate hx; omega⟩
  have HR0 := Lib.hid hrow0
  clear hrow0
  go_loopw [8] (fun i wr => ∃ k : Nat, k ≤ l.length ∧ i = .int .i64 k ∧ Kept w0 wr ∧ Arr wr gg (daysPart W dry l k) ∧ Row W.n (1000 * (k : Int)) (daysPart W dry l k)) (fun i _ => l.length - (intOf i).toNat)
  case atStart => exact ⟨0, Nat.zero_le _, rfl, HK2.out, HA2.out, HR0.out⟩
  case round =>
    clear HA2 HK2 HR0
    obtain ⟨k, hk, rfl, hkw, harr, hrow⟩ := hrel
    have HKW := Lib.hid hkw
    have HA := Lib.hid harr
    have HR := Lib.hid hrow
    clear hkw harr hrow
    by_cases hlt : k < l.length
    · obtain ⟨p, hp1, hpn, hp2⟩ := getD_nat HIN.out hlt
      obtain ⟨B, off, rfl, hc⟩ := (HL.out.kept (HK0.out.trans HKW.out)) k hlt
      rw [hp2] at hc
      have HP1 := Lib.hid hp1
      have HP2 := Lib.hid hp2
      have HPN := Lib.hid hpn
      have HLT := Lib.hid hlt
      have hlen : (daysPart W dry l k).length = W.n := HR.out.1
      generalize hout : daysPart W dry l k = out at *
      have HOUT := Lib.hid hout
      have HLEN := Lib.hid hlen
      clear hout hlen hp1 hp2
      rcases Nat.eq_zero_or_pos k with hk0 | hk0
      case inl =>
        have HA2 : Hid (Arr wr gg (dayFirst l k out)) := Lib.hid (by unfold dayFirst; rw [if_neg (by omega)]; exact HA.out)
        have HK2 := HKW
        have hkd : decide (0 < k) = false := by simp; omega
        have HLK : Hid (k < l.length) := Lib.hid hlt
        clear hk0 HA
        go_wp2
        clear hkd hc
        go_loopw [9] (fun i wr => ∃ m : Nat, m ≤ k ∧ i = .int .i64 m ∧ Kept w0 wr ∧ Arr wr gg ((l.take m).foldl (dayNear W dry p) (dayFirst l k out)) ∧ Row W.n (1000 * ((k : Nat) : Int) + 1 + 31 * (m : Int)) ((l.take m).foldl (dayNear W dry p) (dayFirst l k out))) (fun i _ => k - (intOf i).toNat)
        case atStart =>
          refine ⟨0, Nat.zero_le _, rfl, ?_, ?_, (HR.out.first (by omega) l k).mono (by omega)⟩
          · exact HK2.out
          · exact HA2.out
        case round =>
          obtain ⟨m, hm, rfl, hkw, harr, hrow⟩ := hrel
          clear HKW
          have HKW := Lib.hid hkw
          have HAR := Lib.hid harr
          have HRW := Lib.hid hrow
          clear hkw harr hrow
          by_cases hltm : m < k
          · have hml : m < l.length := by omega
            obtain ⟨q, hq1, hqn, hq2⟩ := getD_nat HIN.out hml
            obtain ⟨B', off', e', hcm⟩ := (HL.out.kept (HK0.out.trans HKW.out)) m hml
            simp only [Option.some.injEq, Addr.mk.injEq] at e'
            obtain ⟨rfl, rfl, -⟩ := e'
            obtain ⟨B', off', e', hck⟩ := (HL.out.kept (HK0.out.trans HKW.out)) k HLK.out
            simp only [Option.some.injEq, Addr.mk.injEq] at e'
            obtain ⟨rfl, rfl, -⟩ := e'
            have hstep : (l.take (m + 1)).foldl (dayNear W dry p) (dayFirst l k out) = dayNear W dry p ((l.take m).foldl (dayNear W dry p) (dayFirst l k out)) l[m] := by
              rw [List.take_succ_eq_append_getElem hml, List.foldl_append]; rfl
            rw [hq2] at hstep hcm
            rw [HP2.out] at hck
            have HST := Lib.hid hstep
            have hl := HRW.out.1
            have hcp := HAR.out.get p (by rw [hl]; exact HPN.out)
            have hcq := HAR.out.get q (by rw [hl]; exact hqn)
            have hbp := HRW.out.2 _ (List.getElem_mem (show p < _ by rw [hl]; exact HPN.out))
            have hbq := HRW.out.2 _ (List.getElem_mem (show q < _ by rw [hl]; exact hqn))
            have hdp : ((l.take m).foldl (dayNear W dry p) (dayFirst l k out)).getD p 0 = ((l.take m).foldl (dayNear W dry p) (dayFirst l k out))[p]'(by rw [hl]; exact HPN.out) := by rw [List.getD_eq_getElem?_getD, List.getElem?_eq_getElem]; rfl
            have hdq : ((l.take m).foldl (dayNear W dry p) (dayFirst l k out)).getD q 0 = ((l.take m).foldl (dayNear W dry p) (dayFirst l k out))[q]'(by rw [hl]; exact hqn) := by rw [List.getD_eq_getElem?_getD, List.getElem?_eq_getElem]; rfl
            clear hstep
            generalize ((l.take m).foldl (dayNear W dry p) (dayFirst l k out))[p]'(by rw [hl]; exact HPN.out) = dp at *
            generalize ((l.take m).foldl (dayNear W dry p) (dayFirst l k out))[q]'(by rw [hl]; exact hqn) = dq at *
            generalize (l.take m).foldl (dayNear W dry p) (dayFirst l k out) = cur at *
            have HDP := Lib.hid hdp
            have HDQ2 := Lib.hid hdq
            have hpn := HPN.out
            have hpi : (p : Int) < W.n := by omega
            have hqi : (q : Int) < W.n := by omega
            have hmi : (m : Int) < (l.length : Int) := by omega
            have hw1 : IntKind.i64.wrap (dq + dry) = dq + dry := IntWalk.i64_in _ (by omega)
            have hw2 : IntKind.i64.wrap (dq + dry + 1) = dq + dry + 1 := IntWalk.i64_in _ (by omega)
            have HBB : Hid (dp ≤ 1000 * ((k : Nat) : Int) + 1 + 31 * (m : Int) ∧ dq ≤ 1000 * ((k : Nat) : Int) + 1 + 31 * (m : Int) ∧ 0 ≤ dp) := Lib.hid ⟨hbp.2, hbq.2, hbp.1⟩
            have hki : (m : Int) < ((k : Nat) : Int) := by omega
            obtain ⟨q0, q1, q2⟩ := HB0.out.kept HKW.out
            have qb := lt_of_cell q0
            clear hdp hdq hl hbp hbq hq1 hq2
            go_wp2
            refine region_tail 9 (by kernel_rfl) (by kernel_rfl) ?_
            simp only [List.take_succ_cons, List.take_zero, List.drop_succ_cons, List.drop_zero]
            iterate 9
              with_reducible refine wpStill_want ?_ (fun K hK => ?_)
              · rfl
              go_simp
              refine hK _ ?_
              clear hK K
            with_reducible refine wpStill_nil ?_
            go_wp2_with fail
            have hF := Rnear_any o ao bo ca cb (q : Int) (p : Int) wr.drew (HO.out.kept ((HK0.out.trans HKW.out).drew))
            rw [HNEAR.out] at hF
            refine hF.mono ?_
            clear hF
            rintro e w4 ⟨rfl, hk4⟩
            have HK4 := Lib.hid (HKW.out.drew.trans hk4)
            have HA4 := Lib.hid ((HAR.out.kept (Kept.refl _).drew).kept hk4)
            have hcm := ((Kept.refl wr).drew.trans hk4).cell hcm
            have hck := ((Kept.refl wr).drew.trans hk4).cell hck
            have hcp := ((Kept.refl wr).drew.trans hk4).cell hcp
            have hcq := ((Kept.refl wr).drew.trans hk4).cell hcq
            have hfr := HA4.out.free p
            clear hk4 q0 q1 q2 qb HAR
            cases hh : hasS (W.near p) q
            all_goals
              have HH := Lib.hid hh
              clear hh
            · have hN : dayNear W dry p cur (q : Int) = cur := by unfold dayNear; rw [Int.toNat_natCast, if_neg (by rw [HH.out]; simp)]
              rw [hN] at HST
              clear hN
              go_wp2
              go_roundw
              case measure => simp [intOf] <;> omega
              case rel => exact ⟨m + 1, by omega, by go_num, HK4.out, by rw [HST.out]; exact HA4.out, by rw [HST.out]; exact HRW.out.mono (by omega)⟩
            · have hN : dayNear W dry p cur (q : Int) = cur.set p (max dp (dq + dry + 1)) := by unfold dayNear; rw [Int.toNat_natCast, if_pos HH.out, HDP.out, HDQ2.out]
              have HN := Lib.hid hN
              clear hN
              go_wp2
              refine region_tail 24 (by kernel_rfl) (by kernel_rfl) ?_
              simp only [List.take_succ_cons, List.take_zero, List.drop_succ_cons, List.drop_zero]
              iterate 24
                with_reducible refine wpStill_want ?_ (fun K hK => ?_)
                · rfl
                go_simp
                refine hK _ ?_
                clear hK K
              with_reducible refine wpStill_nil ?_
              go_wp2
              go_roundw
              case measure => simp [intOf] <;> omega
              case rel =>
                have em : (if dp < dq + dry + 1 then dq + dry + 1 else dp) = max dp (dq + dry + 1) := by split <;> omega
                obtain ⟨b1, b2, b3⟩ := HBB.out
                refine ⟨m + 1, by omega, by go_num, (HK4.out.setCell (p := ⟨gg, p, none⟩) (by rw [HGG.out]; exact Nat.le_refl _) _).drew, ?_, ?_⟩
                · rw [HST.out, HN.out, em]; exact (HA4.out.set _).kept (Kept.refl _).drew
                · rw [HST.out, HN.out]; exact (HRW.out.mono (by omega)).set _ (by omega)
          · have em : m = k := by omega
            have hfin : (l.take m).foldl (dayNear W dry p) (dayFirst l k out) = daysPart W dry l (k + 1) := by
              rw [em, daysPart_succ, dayStep, HOUT.out, HP1.out, Int.toNat_natCast]
            rw [hfin] at HAR HRW
            clear em hfin
            go_wp2
            go_roundw
            case measure => have := HLK.out; simp [intOf] <;> omega
            case rel => exact ⟨k + 1, HLK.out, by go_num, HKW.out, HAR.out, HRW.out.mono (by omega)⟩
      case inr =>
        obtain ⟨q, hq1, hqn, hq2⟩ := getD_nat HIN.out (show k - 1 < l.length by omega)
        obtain ⟨B', off', e', hc'⟩ := (HL.out.kept (HK0.out.trans HKW.out)) (k - 1) (by omega)
        simp only [Option.some.injEq, Addr.mk.injEq] at e'
        obtain ⟨rfl, rfl, -⟩ := e'
        rw [hq2] at hc'
        have hcp := HA.out.get p (by rw [HLEN.out]; exact hpn)
        have hcq := HA.out.get q (by rw [HLEN.out]; exact hqn)
        have hfr := HA.out.free p
        have hb1 := HR.out.2 (out[q]'(by rw [HLEN.out]; exact hqn)) (List.getElem_mem _)
        have hdq : out.getD q 0 = out[q]'(by rw [HLEN.out]; exact hqn) := by rw [List.getD_eq_getElem?_getD, List.getElem?_eq_getElem]; rfl
        generalize out[q]'(by rw [HLEN.out]; exact hqn) = d at *
        have HDQ := Lib.hid hdq
        have HQ1 := Lib.hid hq1
        obtain ⟨hb1, hb2⟩ := hb1
        have hd3 : d ≤ 100000 := by omega
        have hwd : IntKind.i64.wrap (d + 1) = d + 1 := IntWalk.i64_in _ (by omega)
        have hpi : (p : Int) < (W.n : Int) := by omega
        have hqi : (q : Int) < (W.n : Int) := by omega
        have hkd : decide (0 < k) = true := by simp; omega
        have HK0' := Lib.hid hk0
        obtain ⟨j, rfl⟩ : ∃ j, k = j + 1 := ⟨k - 1, by omega⟩
        simp only [Nat.add_sub_cancel] at hc' HQ1
        have hwj : IntKind.i64.wrap (j : Int) = j := IntWalk.i64_in _ (by omega)
        have hjl : j < l.length := by omega
        have hji : (j : Int) < (l.length : Int) := by omega
        have hj1 : (j : Int) + 1 < (l.length : Int) := by omega
        have hj2 : (0 : Int) ≤ (j : Int) + 1 := by omega
        have hj3 : (0 : Int) < (j : Int) + 1 := by omega
        have hj4 : ((j : Int) + 1).toNat = j + 1 := by omega
        clear hb2 hdq hq1 hq2
        go_wp2
        refine region_tail 15 (by kernel_rfl) (by kernel_rfl) ?_
        simp only [List.take_succ_cons, List.take_zero, List.drop_succ_cons, List.drop_zero]
        iterate 15
          with_reducible refine wpStill_want ?_ (fun K hK => ?_)
          · rfl
          go_simp
          refine hK _ ?_
          clear hK K
        with_reducible refine wpStill_nil ?_
        go_wp2
        have HLK : Hid (j + 1 < l.length) := Lib.hid hlt
        have HF : Hid (dayFirst l (j + 1) out = out.set p (d + 1)) := Lib.hid (by unfold dayFirst; rw [if_pos (by omega), HP1.out, show j + 1 - 1 = j by omega, HQ1.out, Int.toNat_natCast, Int.toNat_natCast, HDQ.out])
        clear hc hc' hcp hcq hfr hb1 hd3 hwd hqi hwj hji hkd hk0
        go_loopw [9] (fun i wr => ∃ m : Nat, m ≤ (j + 1) ∧ i = .int .i64 m ∧ Kept w0 wr ∧ Arr wr gg ((l.take m).foldl (dayNear W dry p) (dayFirst l (j + 1) out)) ∧ Row W.n (1000 * (((j + 1) : Nat) : Int) + 1 + 31 * (m : Int)) ((l.take m).foldl (dayNear W dry p) (dayFirst l (j + 1) out))) (fun i _ => (j + 1) - (intOf i).toNat)
        case atStart =>
          refine ⟨0, Nat.zero_le _, rfl, ?_, ?_, (HR.out.first (by omega) l (j + 1)).mono (by omega)⟩
          · exact (HKW.out.setCell (p := ⟨gg, p, none⟩) (by rw [HGG.out]; exact Nat.le_refl _) _).drew
          · rw [List.take_zero, List.foldl_nil, HF.out]; exact (HA.out.set _).kept (Kept.refl _).drew
        case round =>
          obtain ⟨m, hm, rfl, hkw, harr, hrow⟩ := hrel
          clear HKW
          have HKW := Lib.hid hkw
          have HAR := Lib.hid harr
          have HRW := Lib.hid hrow
          clear hkw harr hrow
          by_cases hltm : m < (j + 1)
          · have hml : m < l.length := by omega
            obtain ⟨q, hq1, hqn, hq2⟩ := getD_nat HIN.out hml
            obtain ⟨B', off', e', hcm⟩ := (HL.out.kept (HK0.out.trans HKW.out)) m hml
            simp only [Option.some.injEq, Addr.mk.injEq] at e'
            obtain ⟨rfl, rfl, -⟩ := e'
            obtain ⟨B', off', e', hck⟩ := (HL.out.kept (HK0.out.trans HKW.out)) (j + 1) HLK.out
            simp only [Option.some.injEq, Addr.mk.injEq] at e'
            obtain ⟨rfl, rfl, -⟩ := e'
            have hstep : (l.take (m + 1)).foldl (dayNear W dry p) (dayFirst l (j + 1) out) = dayNear W dry p ((l.take m).foldl (dayNear W dry p) (dayFirst l (j + 1) out)) l[m] := by
              rw [List.take_succ_eq_append_getElem hml, List.foldl_append]; rfl
            rw [hq2] at hstep hcm
            rw [HP2.out] at hck
            have HST := Lib.hid hstep
            have hl := HRW.out.1
            have hcp := HAR.out.get p (by rw [hl]; exact HPN.out)
            have hcq := HAR.out.get q (by rw [hl]; exact hqn)
            have hbp := HRW.out.2 _ (List.getElem_mem (show p < _ by rw [hl]; exact HPN.out))
            have hbq := HRW.out.2 _ (List.getElem_mem (show q < _ by rw [hl]; exact hqn))
            have hdp : ((l.take m).foldl (dayNear W dry p) (dayFirst l (j + 1) out)).getD p 0 = ((l.take m).foldl (dayNear W dry p) (dayFirst l (j + 1) out))[p]'(by rw [hl]; exact HPN.out) := by rw [List.getD_eq_getElem?_getD, List.getElem?_eq_getElem]; rfl
            have hdq : ((l.take m).foldl (dayNear W dry p) (dayFirst l (j + 1) out)).getD q 0 = ((l.take m).foldl (dayNear W dry p) (dayFirst l (j + 1) out))[q]'(by rw [hl]; exact hqn) := by rw [List.getD_eq_getElem?_getD, List.getElem?_eq_getElem]; rfl
            clear hstep
            generalize ((l.take m).foldl (dayNear W dry p) (dayFirst l (j + 1) out))[p]'(by rw [hl]; exact HPN.out) = dp at *
            generalize ((l.take m).foldl (dayNear W dry p) (dayFirst l (j + 1) out))[q]'(by rw [hl]; exact hqn) = dq at *
            generalize (l.take m).foldl (dayNear W dry p) (dayFirst l (j + 1) out) = cur at *
            have HDP := Lib.hid hdp
            have HDQ2 := Lib.hid hdq
            have hpn := HPN.out
            have hpi : (p : Int) < W.n := by omega
            have hqi : (q : Int) < W.n := by omega
            have hmi : (m : Int) < (l.length : Int) := by omega
            have hw1 : IntKind.i64.wrap (dq + dry) = dq + dry := IntWalk.i64_in _ (by omega)
            have hw2 : IntKind.i64.wrap (dq + dry + 1) = dq + dry + 1 := IntWalk.i64_in _ (by omega)
            have HBB : Hid (dp ≤ 1000 * (((j + 1) : Nat) : Int) + 1 + 31 * (m : Int) ∧ dq ≤ 1000 * (((j + 1) : Nat) : Int) + 1 + 31 * (m : Int) ∧ 0 ≤ dp) := Lib.hid ⟨hbp.2, hbq.2, hbp.1⟩
            have hki : (m : Int) < (((j + 1) : Nat) : Int) := by omega
            obtain ⟨q0, q1, q2⟩ := HB0.out.kept HKW.out
            have qb := lt_of_cell q0
            clear hdp hdq hl hbp hbq hq1 hq2
            go_wp2
            refine region_tail 9 (by kernel_rfl) (by kernel_rfl) ?_
            simp only [List.take_succ_cons, List.take_zero, List.drop_succ_cons, List.drop_zero]
            iterate 9
              with_reducible refine wpStill_want ?_ (fun K hK => ?_)
              · rfl
              go_simp
              refine hK _ ?_
              clear hK K
            with_reducible refine wpStill_nil ?_
            go_wp2_with fail
            have hF := Rnear_any o ao bo ca cb (q : Int) (p : Int) wr.drew (HO.out.kept ((HK0.out.trans HKW.out).drew))
            rw [HNEAR.out] at hF
            refine hF.mono ?_
            clear hF
            rintro e w4 ⟨rfl, hk4⟩
            have HK4 := Lib.hid (HKW.out.drew.trans hk4)
            have HA4 := Lib.hid ((HAR.out.kept (Kept.refl _).drew).kept hk4)
            have hcm := ((Kept.refl wr).drew.trans hk4).cell hcm
            have hck := ((Kept.refl wr).drew.trans hk4).cell hck
            have hcp := ((Kept.refl wr).drew.trans hk4).cell hcp
            have hcq := ((Kept.refl wr).drew.trans hk4).cell hcq
            have hfr := HA4.out.free p
            clear hk4 q0 q1 q2 qb HAR
            cases hh : hasS (W.near p) q
            all_goals
              have HH := Lib.hid hh
              clear hh
            · have hN : dayNear W dry p cur (q : Int) = cur := by unfold dayNear; rw [Int.toNat_natCast, if_neg (by rw [HH.out]; simp)]
              rw [hN] at HST
              clear hN
              go_wp2
              go_roundw
              case measure => simp [intOf] <;> omega
              case rel => exact ⟨m + 1, by omega, by go_num, HK4.out, by rw [HST.out]; exact HA4.out, by rw [HST.out]; exact HRW.out.mono (by omega)⟩
            · have hN : dayNear W dry p cur (q : Int) = cur.set p (max dp (dq + dry + 1)) := by unfold dayNear; rw [Int.toNat_natCast, if_pos HH.out, HDP.out, HDQ2.out]
              have HN := Lib.hid hN
              clear hN
              go_wp2
              refine region_tail 24 (by kernel_rfl) (by kernel_rfl) ?_
              simp only [List.take_succ_cons, List.take_zero, List.drop_succ_cons, List.drop_zero]
              iterate 24
                with_reducible refine wpStill_want ?_ (fun K hK => ?_)
                · rfl
                go_simp
                refine hK _ ?_
                clear hK K
              with_reducible refine wpStill_nil ?_
              go_wp2
              go_roundw
              case measure => simp [intOf] <;> omega
              case rel =>
                have em : (if dp < dq + dry + 1 then dq + dry + 1 else dp) = max dp (dq + dry + 1) := by split <;> omega
                obtain ⟨b1, b2, b3⟩ := HBB.out
                refine ⟨m + 1, by omega, by go_num, (HK4.out.setCell (p := ⟨gg, p, none⟩) (by rw [HGG.out]; exact Nat.le_refl _) _).drew, ?_, ?_⟩
                · rw [HST.out, HN.out, em]; exact (HA4.out.set _).kept (Kept.refl _).drew
                · rw [HST.out, HN.out]; exact (HRW.out.mono (by omega)).set _ (by omega)
          · have em : m = (j + 1) := by omega
            have hfin : (l.take m).foldl (dayNear W dry p) (dayFirst l (j + 1) out) = daysPart W dry l ((j + 1) + 1) := by
              rw [em, daysPart_succ, dayStep, HOUT.out, HP1.out, Int.toNat_natCast]
            rw [hfin] at HAR HRW
            clear em hfin
            go_wp2
            go_roundw
            case measure => have := HLK.out; simp [intOf] <;> omega
            case rel => exact ⟨(j + 1) + 1, HLK.out, by go_num, HKW.out, HAR.out, HRW.out.mono (by omega)⟩
    · have hk2 : k = l.length := by omega
      have HAD : Hid (Arr wr gg (daysOf W dry l)) := Lib.hid (by have := HA.out; rw [hk2] at this; exact this)
      clear hk2
      go_wp2
      go_ret
      exact ⟨gg, rfl, HG.out, HAD.out, HK0.out.trans HKW.out⟩

set_option maxHeartbeats 800000 in
theorem RDays_any (o : Prob) (ao bo : Option Addr) (ca cb : Nat) (dry : Int) (l : List Int) (lo : Option Addr) (c : Nat) (w : World) (ho : IsProb w o ao bo) (hl : Ints w lo l) (hll : l.length < 1152921504606846976) (hlc : l.length ≤ c) :
    Calls Try.prog 40 #[probV o ao ca bo cb, .int .i64 dry, .slice lo l.length c] w (ListErr (DaysR o dry l).1 (DaysR o dry l).2 w) := by
  have HO := Lib.hid ho
  have HL := Lib.hid hl
  clear ho hl
  obtain ⟨dx, hdx⟩ : ∃ x, (DaysR o dry l).1 = x := ⟨_, rfl⟩
  obtain ⟨de, hde⟩ : ∃ x, (DaysR o dry l).2 = x := ⟨_, rfl⟩
  obtain ⟨er, her⟩ : ∃ x, datErr o dry l = x := ⟨_, rfl⟩
  rw [hdx, hde]
  have HDX := Lib.hid hdx
  have HDE := Lib.hid hde
  have HER := Lib.hid her
  clear hdx hde her
  go_enter Try.func40, Try.ntmps40
  go_wp2_with fail
  obtain ⟨w0, e0, hk0, hb0, -⟩ := alloc_prob w o.N o.arcs o.near ao ca bo cb
  rw [e0]
  clear e0
  have HK0 := Lib.hid hk0
  have HB0 := Lib.hid hb0
  clear hk0
  obtain ⟨q0, q1, q2⟩ := hb0
  have qb := lt_of_cell q0
  go_wp2_with fail
  clear q0 q1 q2 qb
  have hF := Rdried_any o ao bo ca cb dry l lo c w0 (HO.out.kept HK0.out) (HL.out.kept HK0.out) hll hlc
  rw [HER.out] at hF
  refine hF.mono ?_
  clear hF
  rintro e w1 ⟨rfl, hk1⟩
  have HK1 := Lib.hid (HK0.out.trans hk1)
  have HB1 := Lib.hid (HB0.out.kept hk1)
  clear hk1
  by_cases he : er = 0
  · subst he
    obtain ⟨hc, hdry, hord⟩ := datErr_ok HER.out
    obtain ⟨hlen, hin, -⟩ := ordered_facts hord
    have HX : Hid (daysOf (webOf o) dry l = dx ∧ 0 = de) := Lib.hid (by rw [← HDX.out, ← HDE.out]; unfold DaysR; rw [if_pos HER.out]; exact ⟨rfl, rfl⟩)
    have HF := Lib.hid fun (X : World) (hk : Kept w X) => Rdays_any o ao bo ca cb dry l lo c X (HO.out.kept hk) (HL.out.kept hk) hc hlen hin hdry.1 hdry.2
    clear hc hdry hord hlen hin
    obtain ⟨q0, q1, q2⟩ := HB1.out
    have qb := lt_of_cell q0
    go_wp2_with fail
    clear q0 q1 q2 qb
    refine (HF.out w1 HK1.out).mono ?_
    rintro e w2 ⟨g, rfl, hg, harr, hk2⟩
    have hnew := harr.new (w := w) (Nat.le_trans HK1.out.size hg)
    unfold daysOf at hnew
    rw [daysPart_length] at hnew
    have HN := Lib.hid hnew
    have HK2 := Lib.hid (HK1.out.trans hk2)
    clear hnew harr hk2 hg
    go_wp2
    go_ret2
    rw [← HX.out.1, ← HX.out.2]
    exact ⟨_, rfl, HN.out, HK2.out⟩
  · have HX : Hid ([] = dx ∧ er = de) := Lib.hid (by rw [← HDX.out, ← HDE.out]; unfold DaysR; rw [HER.out, if_neg he]; exact ⟨rfl, rfl⟩)
    have hb : (er != 0) = true := by simp [he]
    clear he
    go_wp2
    go_ret2
    rw [← HX.out.1, ← HX.out.2]
    exact ⟨_, rfl, NewI.nil _ _, HK1.out⟩
end Go.Proofs.Yteljjkghjbofnaa
