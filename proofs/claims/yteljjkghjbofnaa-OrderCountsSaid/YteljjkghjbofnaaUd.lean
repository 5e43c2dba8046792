/- ref.Nth. -/
import Derived.Test.YteljjkghjbofnaaUb
set_option maxRecDepth 100000
namespace Go.Proofs.Yteljjkghjbofnaa
open Go Go.Proofs Go.RowKit
attribute [local go_sem] Oper.semAt_some

/-- The patches from a on that may come next. -/
def fromR (W : Web) (d : S) (a : Nat) : List Nat := (List.range' a (W.n - a)).filter (readyB W d)
theorem fromR_zero (W : Web) (d : S) : fromR W d 0 = readyL W d := by
  unfold fromR readyL; rw [Nat.sub_zero, List.range_eq_range']
theorem fromR_end (W : Web) (d : S) : fromR W d W.n = [] := by unfold fromR; rw [Nat.sub_self]; rfl
theorem fromR_no {W : Web} {d : S} {a : Nat} (ha : a < W.n) (h : readyB W d a = false) : fromR W d a = fromR W d (a + 1) := by
  unfold fromR
  rw [show W.n - a = (W.n - (a + 1)) + 1 by omega, List.range'_succ, List.filter_cons, if_neg (by rw [h]; simp)]
theorem fromR_yes {W : Web} {d : S} {a : Nat} (ha : a < W.n) (h : readyB W d a = true) : fromR W d a = a :: fromR W d (a + 1) := by
  unfold fromR
  rw [show W.n - a = (W.n - (a + 1)) + 1 by omega, List.range'_succ, List.filter_cons, if_pos h]
theorem nthScan_le {W : Web} {d : S} {p : Nat} {k : Int} {ps : List Nat} (h : ¬ k < cnt W (d ||| oneS p)) : nthScan W d (p :: ps) k = nthScan W d ps (k - cnt W (d ||| oneS p)) := by
  conv => lhs; unfold nthScan
  rw [if_neg h]

set_option maxHeartbeats 2000000 in
theorem RNth_any (o : Prob) (ao bo : Option Addr) (ca cb : Nat) (k0 : Int) (w : World) (ho : IsProb w o ao bo) :
    Calls Try.prog 54 #[probV o ao ca bo cb, .int .i64 k0] w (ListErr (NthR o k0).1 (NthR o k0).2 w) := by
  have HO := Lib.hid ho
  clear ho
  obtain ⟨r1, hr1⟩ : ∃ r, (NthR o k0).1 = r := ⟨_, rfl⟩
  obtain ⟨r2, hr2⟩ : ∃ r, (NthR o k0).2 = r := ⟨_, rfl⟩
  rw [hr1, hr2]
  have HR1 := Lib.hid hr1
  have HR2 := Lib.hid hr2
  clear hr1 hr2
  go_enter Try.func54, Try.ntmps54
  go_wp2_with fail
  obtain ⟨w0, e0, hk0, hb0, hs0⟩ := alloc_prob w o.N o.arcs o.near ao ca bo cb
  rw [e0]
  clear e0
  have HK0 := Lib.hid hk0
  have HB0 := Lib.hid hb0
  clear hk0 hs0
  obtain ⟨q0, q1, q2⟩ := hb0
  have qb := lt_of_cell q0
  go_wp2_with fail
  clear q0 q1 q2 qb
  refine (Rcounted_any o ao bo ca cb w0 (HO.out.kept HK0.out)).mono ?_
  rintro e w1 ⟨rfl, hk⟩
  have HK1 := Lib.hid (HK0.out.trans hk)
  have HB1 := Lib.hid (HB0.out.kept hk)
  clear hk HK0 HB0
  by_cases he : errC o = 0
  · obtain ⟨hc, hn⟩ := errC_ok he
    have HC := Lib.hid hc
    have HN12 := Lib.hid hn
    have HN := Lib.hid (webOf_nI hc)
    have HRR : Hid (NthR o k0 = if k0 < 0 ∨ cnt (webOf o) 0#32 ≤ k0 then ([], 1) else (nthOf (webOf o) k0, 0)) := Lib.hid (by unfold NthR; rw [if_pos he])
    rw [he]
    obtain ⟨q0, q1, q2⟩ := HB1.out
    have qb := lt_of_cell q0
    clear he hc hn
    go_wp2_with fail
    clear q0 q1 q2 qb
    refine (Rways_any o ao bo ca cb w1 (HO.out.kept HK1.out) HC.out HN12.out).mono ?_
    rintro e w3 ⟨g, rfl, hg, harr, hk⟩
    have HK3 := Lib.hid (HK1.out.trans hk)
    have HB3 := Lib.hid (HB1.out.kept hk)
    have HA3 := Lib.hid harr
    clear hk harr HK1 HB1 hg
    have hm12 : 2 ^ (webOf o).n ≤ 4096 := Nat.pow_le_pow_right (by decide) HN12.out
    have hm0 : 0 < 2 ^ (webOf o).n := Nat.two_pow_pos _
    obtain ⟨m, hm⟩ : ∃ m, 2 ^ (webOf o).n = m := ⟨_, rfl⟩
    rw [hm] at hm12 hm0 HA3 ⊢
    have HM := Lib.hid hm
    have HM12 := Lib.hid hm12
    have HM0 := Lib.hid hm0
    clear hm hm12
    by_cases hk0 : k0 < 0
    · have HX : Hid ([] = r1 ∧ 1 = r2) := Lib.hid (by rw [← HR1.out, ← HR2.out, HRR.out, if_pos (.inl hk0)]; exact ⟨rfl, rfl⟩)
      have e1 : decide (k0 < 0) = true := decide_eq_true hk0
      clear hk0
      go_wp2
      go_ret2
      rw [← HX.out.1, ← HX.out.2]
      exact ⟨_, rfl, NewI.nil _ _, HK3.out⟩
    have HK00 : Hid (0 ≤ k0) := Lib.hid (by omega)
    have e1 : decide (k0 < 0) = false := decide_eq_false hk0
    have h0 : 0 < (tabK (webOf o) m 0).length := by rw [tabK_len]; exact hm0
    have c0 := HA3.out.get 0 h0
    rw [tabK_get, if_pos (Nat.le_refl _)] at c0
    have e0 : BitVec.ofNat 32 0 = 0#32 := rfl
    rw [e0] at c0
    have qc := HA3.out.lt
    clear e0 h0
    by_cases hge : cnt (webOf o) 0#32 ≤ k0
    · have HX : Hid ([] = r1 ∧ 1 = r2) := Lib.hid (by rw [← HR1.out, ← HR2.out, HRR.out, if_pos (.inr hge)]; exact ⟨rfl, rfl⟩)
      have e2 : decide (k0 ≥ cnt (webOf o) 0#32) = true := decide_eq_true hge
      clear hge hk0
      go_wp2
      go_ret2
      rw [← HX.out.1, ← HX.out.2]
      exact ⟨_, rfl, NewI.nil _ _, HK3.out⟩
    have HX : Hid (nthOf (webOf o) k0 = r1 ∧ 0 = r2) := Lib.hid (by rw [← HR1.out, ← HR2.out, HRR.out, if_neg (fun h => h.elim hk0 hge)]; exact ⟨rfl, rfl⟩)
    have HLT0 : Hid (k0 < cnt (webOf o) 0#32) := Lib.hid (by omega)
    have e2 : decide (k0 ≥ cnt (webOf o) 0#32) = false := decide_eq_false hge
    clear hge hk0 HRR
    obtain ⟨N, hNN⟩ : ∃ N : Nat, (webOf o).n = N := ⟨_, rfl⟩
    have HNN := Lib.hid hNN
    clear hNN
    have HSZ := Lib.hid HK3.out.size
    have HWB : Hid (w.heap.size < w3.heap.size) := Lib.hid (lt_of_cell HB3.out.1)
    go_wp2
    clear e1 e2 c0 qc
    go_loopw [1, 8, 9] (fun kv v sv wr => ∃ j s : Nat, j ≤ (webOf o).n ∧ kv = .int .i64 (nthSt (webOf o) k0 j).2 ∧ 0 ≤ (nthSt (webOf o) k0 j).2 ∧ (nthSt (webOf o) k0 j).2 < cnt (webOf o) (setS (nthSt (webOf o) k0 j).1) ∧ (nthSt (webOf o) k0 j).1.length = j ∧ (∀ p ∈ (nthSt (webOf o) k0 j).1, 0 ≤ p ∧ p < ((webOf o).n : Int)) ∧ OwnI wr w3.heap.size v (nthSt (webOf o) k0 j).1 ∧ sv = .int .i64 s ∧ s < m ∧ BitVec.ofNat 32 s = setS (nthSt (webOf o) k0 j).1 ∧ Kept w3 wr) (fun _ v _ _ => (webOf o).n - (match v with | .slice _ k _ => k | _ => 0))
    case atStart => exact ⟨0, 0, Nat.zero_le _, rfl, HK00.out, HLT0.out, rfl, fun p hp => (by cases hp), OwnI.nil _ _, rfl, HM0.out, rfl, Kept.refl _⟩
    case round =>
      obtain ⟨j, s, hj, rfl, hkk0, hkk1, hlen, hin, hown, rfl, hs, hss, hkw⟩ := hrel
      have HNEXT : Hid (nthSt (webOf o) k0 (j + 1) = nthStep (webOf o) (nthSt (webOf o) k0 j)) := Lib.hid rfl
      have HFIN : Hid (j = (webOf o).n → (nthSt (webOf o) k0 j).1 = nthOf (webOf o) k0) := Lib.hid (fun e => by rw [e]; rfl)
      have HEQ : Hid (nthSt (webOf o) k0 j = ((nthSt (webOf o) k0 j).1, (nthSt (webOf o) k0 j).2)) := Lib.hid rfl
      generalize (nthSt (webOf o) k0 j).1 = l at *
      generalize (nthSt (webOf o) k0 j).2 = kk at *
      obtain ⟨fo, fc, rfl, hfc, hfi⟩ := hown.slice
      rw [hlen] at hown ⊢
      have HOWN := Lib.hid hown
      have HFI := Lib.hid hfi
      have HLEN := Lib.hid hlen
      have HIN := Lib.hid hin
      have HKK0 := Lib.hid hkk0
      have HKK1 := Lib.hid hkk1
      have HS := Lib.hid hs
      have HSS := Lib.hid hss
      have HKW := Lib.hid hkw
      clear hown hfi hlen hin hkk0 hkk1 hs hss hkw hfc
      obtain ⟨q0, q1, q2⟩ := HB3.out.kept HKW.out
      have qb := lt_of_cell q0
      by_cases hlt : j < (webOf o).n
      · have hki : decide ((j : Int) < o.N) = true := decide_eq_true (by have := HN.out; omega)
        have HLT := Lib.hid hlt
        clear hlt hj
        go_wp2
        clear q0 q1 q2 qb hki
        go_loopw [1, 8, 9, 10] (fun kv v2 s2 i wi => v2 = .slice fo j fc ∧ s2 = .int .i64 s ∧ ∃ (a : Nat) (k' : Int), a ≤ (webOf o).n ∧ i = .int .i64 a ∧ kv = .int .i64 k' ∧ 0 ≤ k' ∧ k' ≤ kk ∧ nthScan (webOf o) (setS l) (readyL (webOf o) (setS l)) kk = nthScan (webOf o) (setS l) (fromR (webOf o) (setS l) a) k' ∧ Kept wr wi) (fun _ _ _ i _ => (webOf o).n - (intOf i).toNat)
        case atStart => exact ⟨rfl, rfl, 0, kk, Nat.zero_le _, rfl, rfl, HKK0.out, Int.le_refl _, by rw [fromR_zero], Kept.refl _⟩
        case round =>
          obtain ⟨rfl, rfl, a, k', ha, rfl, rfl, hk'0, hk'1, hscan, hki⟩ := hrel
          have HKI := Lib.hid hki
          have HSC := Lib.hid hscan
          have HK'0 := Lib.hid hk'0
          have HK'1 := Lib.hid hk'1
          clear hki hscan hk'0 hk'1
          obtain ⟨q0, q1, q2⟩ := HB3.out.kept (HKW.out.trans HKI.out)
          have qb := lt_of_cell q0
          by_cases han : a < (webOf o).n
          · have hai : decide ((a : Int) < o.N) = true := decide_eq_true (by have := HN.out; omega)
            have HAN := Lib.hid han
            have HRE : Hid (readyR o l (a : Int) = readyB (webOf o) (setS l) a) := Lib.hid (readyR_eq HC.out (fun p hp => by rw [← HN.out]; exact HIN.out p hp) han)
            have h12 : a < 12 := by have := HN12.out; omega
            clear han ha
            go_wp2_with fail
            clear q0 q1 q2 qb hai
            have hF := Rready_any o ao bo ca cb l fo fc (a : Int) wr (HO.out.kept ((HK3.out.trans HKW.out).trans HKI.out)) (HFI.out.kept HKI.out) (by rw [HLEN.out]; have := HLT.out; have := HN12.out; omega)
            rw [HRE.out, HLEN.out] at hF
            refine hF.mono ?_
            clear hF HRE
            rintro e w4 ⟨rfl, hk4⟩
            have HK4 := Lib.hid (HKI.out.trans hk4)
            clear hk4 HKI
            cases hr : readyB (webOf o) (setS l) a
            · have HNO := Lib.hid (HSC.out.trans (by rw [fromR_no HAN.out hr]))
              clear hr
              go_wp2
              go_roundw
              case measure => have := HAN.out; simp [intOf]; omega
              case rel => exact ⟨rfl, rfl, a + 1, k', HAN.out, by go_num, rfl, HK'0.out, HK'1.out, HNO.out, HK4.out⟩
            · have HYES := Lib.hid (HSC.out.trans (by rw [fromR_yes HAN.out hr]))
              clear hr
              have ha12 : a < 12 := by have := HN12.out; have := HAN.out; omega
              have hs4 : s < 4096 := by have := HS.out; have := HM12.out; omega
              have hshl := shl_one a ha12
              have hshl2 := shl_one' a ha12
              have hor := or_one s a hs4 ha12
              have hs2m : s ||| 2 ^ a < m := by rw [← HM.out]; exact or_bound (by rw [HM.out]; exact HS.out) HAN.out
              have HS2M := Lib.hid hs2m
              have HOA := Lib.hid (ofNat_or s a ha12)
              rw [HSS.out] at HOA
              have HCB := Lib.hid (cnt_bound HN12.out _ (setS l ||| oneS a) (Nat.le_refl _)).1
              have HCU := Lib.hid (cnt_bound HN12.out _ (setS l) (Nat.le_refl _)).2.1
              generalize s ||| 2 ^ a = s2 at *
              generalize 2 ^ a = p2 at *
              have hAr := HA3.out.kept (HKW.out.trans HK4.out)
              have hl2 : s2 < (tabK (webOf o) m 0).length := by rw [tabK_len]; exact hs2m
              have v1 := hAr.get s2 hl2
              rw [tabK_get, if_pos (Nat.zero_le _), HOA.out] at v1
              have vl := hAr.lt
              clear hAr hl2 ha12
              obtain ⟨c2, hc2⟩ : ∃ c2, cnt (webOf o) (setS l ||| oneS a) = c2 := ⟨_, rfl⟩
              rw [hc2] at v1 HCB
              have HC2 := Lib.hid hc2
              clear hc2
              by_cases hkl : k' < c2
              · have HKL := Lib.hid hkl
                have e3 : decide (k' < c2) = true := decide_eq_true hkl
                have hnext : nthSt (webOf o) k0 (j + 1) = (l ++ [(a : Int)], k') := by
                  rw [HNEXT.out, HEQ.out]
                  unfold nthStep
                  simp only
                  rw [HYES.out]
                  unfold nthScan
                  rw [HC2.out, if_pos hkl]
                have HNX := Lib.hid hnext
                clear hnext hkl
                go_wp2_with (at_builtin; refine append_int _ rfl _ _ rfl w3.heap.size (.slice fo j fc) l rfl ((HOWN.out.kept HK4.out).kept ((Kept.refl _).alloc _)) w4.heap.size 1 (a : Int) rfl (by simp [go_sem]) (by rw [HLEN.out]; have := HLT.out; have := HN12.out; omega) (by have := HKW.out.size; have := HK4.out.size; simp; omega) ?_; intro g' c' w5 hown5 hg5; have HO5 := Lib.hid hown5; have HK5 := Lib.hid (((HKW.out.trans HK4.out).alloc _).grown hg5 (fun r e => (HOWN.out.lt r e).1)); clear hown5 hg5 v1 vl e3)
                go_roundw
                case measure => simp only [HLEN.out]; have := HLT.out; omega
                case rel =>
                  have e1 : (nthSt (webOf o) k0 (j + 1)).1 = l ++ [(a : Int)] := by rw [HNX.out]
                  have e2 : (nthSt (webOf o) k0 (j + 1)).2 = k' := by rw [HNX.out]
                  refine ⟨j + 1, s2, HLT.out, by rw [e2], by rw [e2]; exact HK'0.out, ?_, by rw [e1, List.length_append, HLEN.out]; rfl, ?_, ?_, rfl, HS2M.out, ?_, HK5.out⟩
                  · rw [e1, e2, setS_snoc, Int.toNat_natCast, HC2.out]; exact HKL.out
                  · rw [e1]
                    intro p hp
                    rcases List.mem_append.1 hp with h | h
                    · exact HIN.out p h
                    · simp at h; subst h; have := HAN.out; omega
                  · rw [e1]; exact HO5.out
                  · rw [e1, setS_snoc, Int.toNat_natCast]; exact HOA.out
              · have e3 : decide (k' < c2) = false := decide_eq_false hkl
                have HKL := Lib.hid hkl
                have HYN := Lib.hid (HYES.out.trans (nthScan_le (ps := fromR (webOf o) (setS l) (a + 1)) (by rw [HC2.out]; exact hkl)))
                rw [HC2.out] at HYN
                have hw : wrap64 (k' - c2) = k' - c2 := by
                  have h1 := HCU.out
                  have h2 : fct (rest (webOf o) (setS l)) ≤ 479001600 := fct_mono (b := 12) (by have := rest_le (webOf o) (setS l); have := HN12.out; omega)
                  have h3 := HKK1.out
                  have h4 := HK'1.out
                  have h5 := HCB.out
                  exact IntWalk.wrap64_in _ (by omega)
                clear hkl
                go_wp2
                go_roundw
                case measure => have := HAN.out; simp [intOf]; omega
                case rel => exact ⟨rfl, rfl, a + 1, k' - c2, HAN.out, by go_num, by rw [hw], by have := HKL.out; omega, by have := HCB.out; have := HK'1.out; omega, HYN.out, HK4.out⟩
          · exfalso
            obtain rfl : a = (webOf o).n := by omega
            have h := HSC.out
            have hw := setS_not_whole (W := webOf o) (by have := HN12.out; omega) HIN.out (by rw [HLEN.out]; exact HLT.out)
            have hcb := (cnt_bound HN12.out (rest (webOf o) (setS l)) (setS l) (Nat.le_refl _)).2.2 hw
            obtain ⟨p, k2, h5, _⟩ := nthScan_some (W := webOf o) (d := setS l) (readyL (webOf o) (setS l)) kk HKK0.out (by rw [← hcb]; exact HKK1.out)
            rw [h5, fromR_end] at h
            simp [nthScan] at h
      · obtain rfl : j = (webOf o).n := by omega
        have hki : decide (((webOf o).n : Int) < o.N) = false := decide_eq_false (by have := HN.out; omega)
        have hX := HX.out.1
        rw [← HFIN.out rfl] at hX
        have HX3 := Lib.hid hX
        clear hlt hj hX
        go_wp2
        go_ret2
        rw [← HX3.out, ← HX.out.2]
        exact ⟨_, rfl, (HOWN.out.new' HSZ.out), HK3.out.trans HKW.out⟩
  · have HX : Hid ([] = r1 ∧ errC o = r2) := Lib.hid (by rw [← HR1.out, ← HR2.out]; unfold NthR; rw [if_neg he]; exact ⟨rfl, rfl⟩)
    have e1 : (errC o != 0) = true := by simp [he]
    clear he
    go_wp2
    go_ret2
    rw [← HX.out.1, ← HX.out.2]
    exact ⟨_, rfl, NewI.nil _ _, HK1.out⟩
end Go.Proofs.Yteljjkghjbofnaa
