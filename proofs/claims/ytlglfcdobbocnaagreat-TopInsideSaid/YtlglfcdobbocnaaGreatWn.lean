/- plane.Within. -/
import Derived.Test.YtlglfcdobbocnaaGreatWm
import Derived.Test.YtlglfcdobbocnaaGreatWl
set_option maxRecDepth 100000
namespace Go.Proofs.YtlglfcdobbocnaaGreat
open Go Go.Proofs Go.RowKit
attribute [local go_sem] Oper.semAt_some
theorem linP : LinB (fun _ : Pt => True) ltPB where
  asymm x y _ _ h := by unfold ltPB at *; simp only [decide_eq_true_eq, decide_eq_false_iff_not] at *; exact ltP_asymm h
  trans x y z _ _ _ h k := by unfold ltPB at *; simp only [decide_eq_true_eq] at *; exact ltP_trans h k
  tri x y _ _ h := by unfold ltPB; simp only [decide_eq_true_eq]; exact ltP_total h
theorem sorted_isort {l m : List Pt} (hp : m.Perm l) (hs : SortedP m) : m = isort ltPB l := by
  refine isort_uni linP (fun _ _ => trivial) hp ?_
  unfold SortedP at hs
  unfold Rise
  refine List.Pairwise.imp (fun {a b} h => ?_) hs
  unfold ltPB
  rw [decide_eq_false_iff_not, ← cmpP_lt]
  exact h
/-- A new slice of two points. -/
theorem own_two (w : World) (p q : Pt) : OwnP (w.alloc (.cells #[.int .i64 p.1, .int .i64 p.2, .int .i64 q.1, .int .i64 q.2] 25)) w.heap.size (.slice (some ⟨w.heap.size, 0, none⟩) 2 2) [p, q] := by
  refine ⟨by simp [pairC], .inr ⟨w.heap.size, 2, _, rfl, Nat.le_refl _, heap_alloc_new w _, by simp, ?_, by simp, ?_⟩⟩
  · decide
  · simp [pairC]
theorem stops_len (l : List Pt) (s : Sg) (k : Nat) : ([s.1, s.2] ++ (l.take k).filter fun p => insideB p s).length ≤ 2 + l.length := by
  have h1 := List.length_filter_le (fun p => insideB p s) (l.take k)
  have h3 : (l.take k).length ≤ l.length := by simp; omega
  simp only [List.length_append, List.length_cons, List.length_nil]
  omega
set_option maxHeartbeats 8000000 in
theorem within_any (l : List Pt) (ao : Option Addr) (c : Nat) (s : Sg) (w : World) (hp : Pairs w ao l) (hl : l.length < 1099511627776) : Calls Tryz.prog 17 #[.slice ao l.length c, sgV s] w (Gives (.bool (withinF l s)) w) := by
  have HP := Lib.hid hp
  clear hp
  obtain ⟨z, hz⟩ : ∃ z, polyF l = z := ⟨_, rfl⟩
  obtain ⟨x, hx⟩ : ∃ x, okS s = x := ⟨_, rfl⟩
  have Hz := Lib.hid hz
  have Hx := Lib.hid hx
  clear hz hx
  obtain ⟨r, hr⟩ : ∃ r, withinF l s = r := ⟨_, rfl⟩
  have HR := Lib.hid hr
  rw [hr]
  clear hr
  obtain ⟨w0, g0, e0, hg0, hz0, hk0, hb0⟩ := alloc_sg w s
  have HK0 := Lib.hid (hk0)
  have HB0_0 := Lib.hid hb0
  clear hk0 hb0
  obtain ⟨q00, q01, q02, q03⟩ := HB0_0.out
  go_enter Tryz.func17, Tryz.ntmps17
  go_wp2_with fail
  clear q00 q01 q02 q03
  clear e0
  refine (checkPoly_any l ao c _ (HP.out.kept HK0.out) hl).mono ?_
  rintro e x1 ⟨rfl, hk⟩
  have HD1 := Lib.hid hk
  have HB0_1 := Lib.hid (HB0_0.out.kept hk)
  have HK1 := Lib.hid (Kept.trans HK0.out hk)
  clear hk
  rw [Hz.out]
  obtain ⟨q00, q01, q02, q03⟩ := HB0_1.out
  by_cases c0 : z = 0
  ·
    subst c0
    go_wp2_with fail
    clear q00 q01 q02 q03
    refine (rightSeg_any s _).mono ?_
    rintro e x2 ⟨rfl, hk⟩
    have HD2 := Lib.hid hk
    have HB0_2 := Lib.hid (HB0_1.out.kept hk)
    have HK2 := Lib.hid (Kept.trans HK1.out hk)
    clear hk
    rw [Hx.out]
    obtain ⟨q00, q01, q02, q03⟩ := HB0_2.out
    cases x
    ·
      go_wp2
      all_goals (go_ret; exact ⟨ret_bool (by rw [← HR.out]; unfold withinF; rw [Hx.out]; simp), HK2.out⟩)
    ·
      have HOK := Lib.hid (poly_ok Hz.out)
      have HSL : Hid (∀ x ∈ l, Sm x) := Lib.hid fun x hx => Sm.of_ok (HOK.out.2.2.1 x hx)
      have HSS := Lib.hid (okS_sm Hx.out)
      have HO0 := Lib.hid (own_two x2 s.1 s.2)
      obtain ⟨w3, g3, e3, hg3, hk3, ho3⟩ : ∃ w3 g3, x2.alloc (.cells #[.int .i64 s.1.1, .int .i64 s.1.2, .int .i64 s.2.1, .int .i64 s.2.2] 25) = w3 ∧ x2.heap.size = g3 ∧ Kept x2 w3 ∧ OwnP w3 g3 (.slice (some ⟨g3, 0, none⟩) 2 2) [s.1, s.2] := ⟨_, _, rfl, rfl, (Kept.refl x2).alloc _, HO0.out⟩
      have HX3 := Lib.hid hk3
      have HK3 := Lib.hid (HK2.out.trans hk3)
      have HB3 := Lib.hid (HB0_2.out.kept hk3)
      have HO3 := Lib.hid ho3
      clear hk3 ho3 HO0
      have HLN : Hid (l.length ≤ 200) := Lib.hid HOK.out.2.1
      have HG3 : Hid (w.heap.size ≤ g3 ∧ g0 < g3) := Lib.hid (by have := HK2.out.size; have := lt_of_cell HB0_2.out.c0; omega)
      go_wp2
      go_loopw [5, 26] (fun v i wr => ∃ k : Nat, k ≤ l.length ∧ i = .int .i64 k ∧ OwnP wr g3 v ([s.1, s.2] ++ (l.take k).filter fun p => insideB p s) ∧ (∀ j, j < k → meetF (edgeF l j) s ≠ 3) ∧ Kept x2 wr) (fun _ i _ => l.length - (intOf i).toNat)
      case atStart => exact ⟨0, Nat.zero_le _, rfl, by simpa using HO3.out, fun j h => by omega, HX3.out⟩
      case round =>
        clear q00 q01 q02 q03
        clear e3
        obtain ⟨k, hk, rfl, hov, hm3, hxw⟩ := hrel
        have hkw := HK2.out.trans hxw
        have hbw := HB0_2.out.kept hxw
        have HXW := Lib.hid hxw
        have HSW : Hid (g3 ≤ wr.heap.size) := Lib.hid (by have := hxw.size; omega)
        have HOV := Lib.hid hov
        have HM3 := Lib.hid hm3
        have HKW := Lib.hid hkw
        have HBW := Lib.hid hbw
        clear hov hm3 hkw hbw hxw
        by_cases hlt : k < l.length
        ·
          have hpk := HP.out.kept HKW.out
          obtain ⟨b, off, rfl, c0, c1⟩ := hpk k hlt
          have hbl := lt_of_cell c0
          obtain ⟨p, hpx⟩ : ∃ p, l[k] = p := ⟨_, rfl⟩
          have HPX := Lib.hid hpx
          have HXS : Hid (Sm p) := Lib.hid (by rw [← hpx]; exact HSL.out _ (List.getElem_mem hlt))
          rw [hpx] at c0 c1
          clear hpx hpk
          obtain ⟨y1, z1, k1, e1, e2, hg1, hb1, hf1, hk2, hb2, hz1⟩ := new_pt wr p
          have HK4 := Lib.hid (HKW.out.trans hk2)
          have HOV4 := Lib.hid (OwnG.kept HOV.out hk2)
          have HB4 := Lib.hid (HBW.out.kept hk2)
          have HB5 := Lib.hid hb2
          have HXZ := Lib.hid (HXW.out.trans hk2)
          clear hk2
          obtain ⟨a0, a1⟩ := hb1
          obtain ⟨q0, q1⟩ := hb2
          have HE := Lib.hid (edgeF_mem hlt)
          go_wp2
          clear e1 e2 a0 a1 hf1 q0 q1
          refine region_class (fun Z => Kept z1 Z) 5 (by kernel_rfl) (by kernel_rfl) (Kept.refl _).drew ?_
          simp only [List.take_succ_cons, List.take_zero, List.drop_succ_cons, List.drop_zero]
          refine wpQuiet_yield (.slice (some ⟨b, off, none⟩) l.length c) (by rfl) (fun Z hZ => ?_) ?_
          ·
            go_simp
          simp only [Act.put, List.setIfInBounds_toArray, List.set_cons_zero, List.set_cons_succ]
          refine wpQuiet_yield (.int .i64 k) (by rfl) (fun Z hZ => ?_) ?_
          ·
            go_simp
          simp only [Act.put, List.setIfInBounds_toArray, List.set_cons_zero, List.set_cons_succ]
          refine wpQuiet_yield (sgV (edgeF l k)) (by rfl) (fun Z hZ => ?_) ?_
          ·
            go_simp
            have hF := edge_any l (some ⟨b, off, none⟩) c k Z (HP.out.kept (HK4.out.trans hZ)) hlt hl
            exact hF.mono fun e Z' h => ⟨h.1, hZ.trans h.2⟩
          simp only [Act.put, List.setIfInBounds_toArray, List.set_cons_zero, List.set_cons_succ]
          refine wpQuiet_yield (sgV s) (by rfl) (fun Z hZ => ?_) ?_
          ·
            obtain ⟨r00, r01, r02, r03⟩ := HB4.out.kept hZ
            have rb0 := lt_of_cell r00
            go_simp
          simp only [Act.put, List.setIfInBounds_toArray, List.set_cons_zero, List.set_cons_succ]
          refine wpQuiet_yield (.int .u8 (meetF (edgeF l k) s)) (by rfl) (fun Z hZ => ?_) ?_
          ·
            go_simp
            have hF := meet_any (edgeF l k) s Z (HSL.out _ HE.out.1) (HSL.out _ HE.out.2) HSS.out.1 HSS.out.2
            exact hF.mono fun e Z' h => ⟨h.1, hZ.trans h.2⟩
          simp only [Act.put, List.setIfInBounds_toArray, List.set_cons_zero, List.set_cons_succ]
          refine wpQuiet_nil ?_
          intro x5 hk
          have HC5 := Lib.hid hk
          have HB0_5 := Lib.hid (HB4.out.kept hk)
          have HK5 := Lib.hid (Kept.trans HK4.out hk)
          clear hk
          obtain ⟨q00, q01, q02, q03⟩ := HB0_5.out
          have HOV5 := Lib.hid (OwnG.kept HOV4.out HC5.out)
          have HB6 := Lib.hid (HB5.out.kept HC5.out)
          by_cases hm : meetF (edgeF l k) s = 3
          ·
            have HM := Lib.hid hm
            go_wp2
            go_ret
            refine ⟨ret_bool ?_, HK5.out⟩
            rw [← HR.out]
            unfold withinF
            have hall : ((List.range l.length).all fun i => decide (meetF (edgeF l i) s ≠ 3)) = false := by
              rw [List.all_eq_false]
              exact ⟨k, List.mem_range.2 hlt, by rw [decide_eq_true_eq]; exact fun h => h HM.out⟩
            rw [hall]
            simp
          ·
            have HM : Hid (∀ j, j < k + 1 → meetF (edgeF l j) s ≠ 3) := Lib.hid fun j hj => by
              by_cases e : j = k
              · subst e; exact hm
              · exact HM3.out j (by omega)
            have hm2 : (meetF (edgeF l k) s == 3) = false := by simp [hm]
            clear hm
            clear q00 q01 q02 q03
            obtain ⟨q00, q01, q02, q03⟩ := HB0_5.out
            obtain ⟨q10, q11⟩ := HB6.out
            go_wp2_with fail
            clear q00 q01 q02 q03 q10 q11
            refine (inside_any p s _ HXS.out HSS.out.1 HSS.out.2).mono ?_
            rintro e x6 ⟨rfl, hk⟩
            have HD6 := Lib.hid hk
            have HB0_6 := Lib.hid (HB0_5.out.kept hk)
            have HB1_6 := Lib.hid (HB6.out.kept hk)
            have HK6 := Lib.hid (Kept.trans HK5.out hk)
            clear hk
            obtain ⟨q00, q01, q02, q03⟩ := HB0_6.out
            obtain ⟨q10, q11⟩ := HB1_6.out
            skip
            cases hin : insideB p s
            ·
              have HTK : Hid ([s.1, s.2] ++ (l.take (k + 1)).filter (fun p => insideB p s) = [s.1, s.2] ++ (l.take k).filter (fun p => insideB p s)) := Lib.hid (by rw [List.take_succ_eq_append_getElem hlt, List.filter_append, HPX.out]; simp [hin])
              clear hin
              go_wp2
              go_roundw
              case rel => exact ⟨k + 1, by omega, by go_num, by rw [HTK.out]; exact OwnG.kept HOV5.out HD6.out, HM.out, (HXZ.out.trans HC5.out).trans HD6.out⟩
              case measure => simp [intOf]; omega
            ·
              have HTK : Hid ([s.1, s.2] ++ (l.take (k + 1)).filter (fun p => insideB p s) = ([s.1, s.2] ++ (l.take k).filter (fun p => insideB p s)) ++ [p]) := Lib.hid (by rw [List.take_succ_eq_append_getElem hlt, List.filter_append, HPX.out]; simp [hin])
              have HLF : Hid (([s.1, s.2] ++ (l.take k).filter (fun p => insideB p s)).length + 1 < 1000) := Lib.hid (by have := stops_len l s k; have := HLN.out; omega)
              have HX6 := Lib.hid ((HXZ.out.trans HC5.out).trans HD6.out)
              have HOV6 := Lib.hid (OwnG.kept HOV5.out HD6.out)
              clear hin
              obtain ⟨sz6, hsz6⟩ : ∃ n, x6.heap.size = n := ⟨_, rfl⟩
              have HG6 : Hid (g3 ≤ sz6) := Lib.hid (by have := HX6.out.size; omega)
              generalize hF : [s.1, s.2] ++ (l.take k).filter (fun p => insideB p s) = F at HTK HLF HOV6
              clear hF
              go_wp2_with (first | (at_builtin; refine append_pt _ rfl _ _ rfl g3 _ _ rfl (OwnG.kept HOV6.out ((Kept.refl _).alloc _)) _ p rfl ⟨by simp [go_sem, ← hsz6], by simp [go_sem, ← hsz6]⟩ (by have := HLF.out; omega) (by have := HG6.out; simp; omega) ?_; intro ra rc w7 hown7 hg7 hlies7; have HO7 := Lib.hid hown7; have HG7 := Lib.hid hg7; clear hown7 hg7 hlies7) | fail)
              clear q00 q01 q02 q03 q10 q11
              go_roundw
              case rel => exact ⟨k + 1, by omega, by go_num, by rw [HTK.out]; have h := HO7.out; simpa using h, HM.out, Kept.grown (HX6.out.alloc _) HG7.out (fun r e => by rw [hg3]; exact (HOV6.out.lt r e).1)⟩
              case measure => simp [intOf]; omega
        ·
          have hkl : k = l.length := by omega
          subst hkl
          rw [List.take_length] at HOV
          have HLL : Hid (([s.1, s.2] ++ l.filter fun p => insideB p s).length < 1000) := Lib.hid (by have := stops_len l s l.length; rw [List.take_length] at this; have := HLN.out; omega)
          have hL2 : 2 ≤ ([s.1, s.2] ++ l.filter fun p => insideB p s).length := by simp
          obtain ⟨L0, hL0⟩ : ∃ L0, ([s.1, s.2] ++ l.filter fun p => insideB p s) = L0 := ⟨_, rfl⟩
          rw [hL0] at HOV HLL hL2
          have HL0 := Lib.hid hL0
          clear hL0
          rcases HOV.out.slice pairC_len with ⟨h0, -⟩ | ⟨g, cc, rfl, hle, hbg, hgl, -, -⟩
          · rw [h0] at hL2
            simp at hL2
          go_wp2_with fail
          refine (sortP_any g3 g cc L0 wr HOV.out (by have := HLL.out; omega)).mono ?_
          rintro e w5 ⟨rfl, L, hpm, hst, hol, hgr⟩
          have HST : Hid (L = stopsF l s) := Lib.hid (by rw [sorted_isort hpm hst, ← HL0.out]; rfl)
          have HX7 := Lib.hid (Kept.grown HXW.out hgr (fun r e => by cases e; omega))
          have HOL := Lib.hid hol
          have hLl : L.length = L0.length := hpm.length_eq
          have HLN2 : Hid (2 ≤ L0.length ∧ L0.length < 1000 ∧ L.length = L0.length) := Lib.hid (by have := HLL.out; omega)
          clear hpm hst hol hgr hLl hL2 HOV HLL HL0 hle
          go_wp2_with fail
          refine (doubled_any l ao c w5 (HP.out.kept (HK2.out.trans HX7.out)) (by have := HLN.out; omega) HSL.out).mono ?_
          rintro e w6 ⟨v, rfl, hov6, hk6⟩
          obtain ⟨ao2, c2, rfl, hpr2⟩ := hov6.pts
          have HP2 := Lib.hid hpr2
          have HX8 := Lib.hid (HX7.out.trans hk6)
          have HOL6 := Lib.hid (OwnG.kept HOL.out hk6)
          clear hov6 hk6 hpr2
          have HBS := Lib.hid (HB0_2.out.kept HX8.out)
          obtain ⟨q0, q1, q2, q3⟩ := HBS.out
          have HSD : Hid (∀ x ∈ l.map dP, Sm x) := Lib.hid fun x hx => by
            obtain ⟨y, hy, rfl⟩ := List.mem_map.1 hx
            have := HOK.out.2.2.1 y hy
            unfold okB at this
            simp at this
            unfold Sm dP
            simp only []
            omega
          go_wp2_with fail
          clear q0 q1 q2 q3
          refine (where_any l ao c s.1 w6 (HP.out.kept (HK2.out.trans HX8.out)) hl HSL.out HSS.out.1).mono ?_
          rintro e w7 ⟨rfl, hk7⟩
          have HX9 := Lib.hid (HX8.out.trans hk7)
          have HBS7 := Lib.hid (HBS.out.kept hk7)
          have HE7 := Lib.hid hk7
          clear hk7
          obtain ⟨q0, q1, q2, q3⟩ := HBS7.out
          by_cases ha : whereF l s.1 = 0
          ·
            have HA := Lib.hid ha
            have ha2 : (whereF l s.1 == 0) = true := by simp [ha]
            clear ha
            go_wp2
            go_ret
            exact ⟨ret_bool (by rw [← HR.out]; unfold withinF; rw [HA.out]; simp), HK2.out.trans HX9.out⟩
          ·
            have HA := Lib.hid ha
            have ha2 : (whereF l s.1 == 0) = false := by simp [ha]
            clear ha
            go_wp2_with fail
            clear q0 q1 q2 q3 ha2
            refine (where_any l ao c s.2 w7 (HP.out.kept (HK2.out.trans HX9.out)) hl HSL.out HSS.out.2).mono ?_
            rintro e w8 ⟨rfl, hk8⟩
            have HXA := Lib.hid (HX9.out.trans hk8)
            have HE8 := Lib.hid (HE7.out.trans hk8)
            clear hk8
            by_cases hb : whereF l s.2 = 0
            ·
              have HB := Lib.hid hb
              have hb2 : (whereF l s.2 == 0) = true := by simp [hb]
              clear hb
              go_wp2
              go_ret
              exact ⟨ret_bool (by rw [← HR.out]; unfold withinF; rw [HB.out]; simp), HK2.out.trans HXA.out⟩
            ·
              have HB := Lib.hid hb
              have hb2 : (whereF l s.2 == 0) = false := by simp [hb]
              clear hb
              have HP3 := Lib.hid (HP2.out.kept HE8.out)
              have HOL8 := Lib.hid (OwnG.kept HOL6.out HE8.out)
              clear HP2 HOL6 HOL
              obtain ⟨D, hD⟩ : ∃ D, l.map dP = D := ⟨_, rfl⟩
              have HDL : Hid (D.length < 1099511627776) := Lib.hid (by rw [← hD, List.length_map]; exact hl)
              rw [hD] at HP3 HSD
              have HD := Lib.hid hD
              have HDLEN : Hid (D.length = l.length) := Lib.hid (by rw [← hD, List.length_map])
              clear hD
              go_wp2
              go_loopw [9] (fun iv wr => ∃ i : Nat, 1 ≤ i ∧ i ≤ L0.length ∧ iv = .int .i64 i ∧ (∀ j, j + 1 < i → whereF D (addP (L.getD j (0, 0)) (L.getD (j + 1) (0, 0))) ≠ 0) ∧ Kept w8 wr) (fun iv _ => L0.length - (intOf iv).toNat)
              case atStart => exact ⟨1, by omega, by have := HLN2.out; omega, rfl, fun j h => by omega, Kept.refl _⟩
              case round =>
                clear hb2
                obtain ⟨i, hi1, hi, rfl, hall, hkw⟩ := hrel
                have HALL := Lib.hid hall
                have HKW2 := Lib.hid hkw
                clear hall hkw
                by_cases hil : i < L0.length
                ·
                  have hiL : i < L.length ∧ i - 1 < L.length := by have := HLN2.out; omega
                  obtain ⟨j, hj⟩ : ∃ j, i - 1 = j := ⟨_, rfl⟩
                  have hji : i = j + 1 := by omega
                  subst hji
                  have hjL : j < L.length := by omega
                  have hj1L : j + 1 < L.length := hiL.1
                  obtain ⟨p, hpx⟩ : ∃ p, L[j] = p := ⟨_, rfl⟩
                  obtain ⟨q, hqx⟩ : ∃ q, L[j + 1] = q := ⟨_, rfl⟩
                  have hpt := OwnG.kept HOL8.out HKW2.out
                  rcases hpt.slice pairC_len with ⟨h0, -⟩ | ⟨g', cc', he, -, -, -, -, hcell⟩
                  · rw [h0] at hjL
                    simp at hjL
                  obtain ⟨rfl, -, -⟩ : g = g' ∧ True ∧ True := by simp at he; exact ⟨he.1, trivial, trivial⟩
                  have c0 := hcell j hjL 0 (.int .i64 p.1) (by rw [hpx]; rfl)
                  have c1 := hcell j hjL 1 (.int .i64 p.2) (by rw [hpx]; rfl)
                  have c2' := hcell (j + 1) hj1L 0 (.int .i64 q.1) (by rw [hqx]; rfl)
                  have c3 := hcell (j + 1) hj1L 1 (.int .i64 q.2) (by rw [hqx]; rfl)
                  clear hcell he hpt
                  have HMID : Hid (addP (L.getD j (0, 0)) (L.getD (j + 1) (0, 0)) = addP p q) := Lib.hid (by rw [List.getD_eq_getElem?_getD, List.getD_eq_getElem?_getD, List.getElem?_eq_getElem hjL, List.getElem?_eq_getElem hj1L, hpx, hqx]; rfl)
                  have hmem : ∀ x ∈ L, okB x = true := fun x hx => by
                    rw [HST.out] at hx
                    have hx := (isort_perm ltPB _).mem_iff.1 hx
                    have hx2 := Hx.out
                    unfold okS at hx2
                    simp at hx2
                    rcases List.mem_append.1 hx with h | h
                    · simp at h
                      rcases h with rfl | rfl
                      · exact hx2.1.1
                      · exact hx2.1.2
                    · exact HOK.out.2.2.1 x (List.mem_filter.1 h).1
                  have hp1 := hmem p (by rw [← hpx]; exact List.getElem_mem hjL)
                  have hq1 := hmem q (by rw [← hqx]; exact List.getElem_mem hj1L)
                  unfold okB at hp1 hq1
                  simp at hp1 hq1
                  obtain ⟨⟨⟨u1, u2⟩, u3⟩, u4⟩ := hp1
                  obtain ⟨⟨⟨v1, v2⟩, v3⟩, v4⟩ := hq1
                  have HSMM : Hid (Sm (addP p q)) := Lib.hid (by unfold Sm addP; simp only []; omega)
                  clear hmem hiL hpx hqx
                  have hgl := lt_of_cell c0
                  have hjn : (j : Int) + 1 < L0.length := by omega
                  have hj0 : (0 : Int) ≤ (j : Int) + 1 - 1 := by omega
                  have hj3 : (j : Int) + 1 - 1 < L0.length := by omega
                  have hj4 : (0 : Int) ≤ (j : Int) + 1 := by omega
                  have hwj2 : IntKind.i64.wrap (j : Int) = (j : Int) := IntWalk.i64_in _ (by have := HLN2.out; omega)
                  have hj5 : (j : Int) < L0.length := by omega
                  have hln : (L0.length : Int) < 1000 := by have := HLN2.out; omega
                  rw [Nat.add_zero] at c0 c2'
                  clear hj hi1 hi
                  go_upto_region 19 with fail
                  go_cut [10] (fun s10 wx => ∃ x : Nat, s10 = .pointer (some ⟨x, 0, none⟩) ∧ PtBox wx x (addP p q) ∧ Kept wr wx)
                  case first =>
                    have hw5 : IntKind.i64.wrap (p.1 + q.1) = p.1 + q.1 := IntWalk.i64_in _ (by omega)
                    have hw6 : IntKind.i64.wrap (p.2 + q.2) = p.2 + q.2 := IntWalk.i64_in _ (by omega)
                    have hfin : PtBox (wr.alloc (.cells #[.int .i64 (p.1 + q.1), .int .i64 (p.2 + q.2)] 25)).drew wr.heap.size (addP p q) ∧ Kept wr (wr.alloc (.cells #[.int .i64 (p.1 + q.1), .int .i64 (p.2 + q.2)] 25)).drew := ⟨⟨by simp [go_sem, addP], by simp [go_sem, addP]⟩, ((Kept.refl wr).alloc _).drew⟩
                    have HFIN := Lib.hid hfin
                    clear hfin
                    go_region_held3 (fun X => X.cell? ⟨g, j * 2, none⟩ = some (.int .i64 p.1) ∧ X.cell? ⟨g, j * 2 + 1, none⟩ = some (.int .i64 p.2) ∧ X.cell? ⟨g, (j + 1) * 2, none⟩ = some (.int .i64 q.1) ∧ X.cell? ⟨g, (j + 1) * 2 + 1, none⟩ = some (.int .i64 q.2)) (go_keep) (fail)
                    all_goals
                      go_wp2
                      go_meet
                      exact ⟨_, rfl, HFIN.out.1, HFIN.out.2⟩
                  case rest =>
                    clear c0 c1 c2' c3
                    clear hwj2
                    obtain ⟨x, rfl, hb, hk⟩ := hcut
                    have HK9 := Lib.hid (HKW2.out.trans hk)
                    have HB9 := Lib.hid hb
                    obtain ⟨q0, q1⟩ := hb
                    clear hk
                    have hwh := where_any D ao2 c2 (addP p q) wc (HP3.out.kept HK9.out) HDL.out HSD.out HSMM.out
                    rw [HDLEN.out] at hwh
                    have HWH := Lib.hid hwh
                    clear hwh
                    go_wp2_with fail
                    clear q0 q1
                    refine HWH.out.mono ?_
                    rintro e w9 ⟨rfl, hk9⟩
                    have HK10 := Lib.hid (HK9.out.trans hk9)
                    clear hk9
                    by_cases hz0 : whereF D (addP p q) = 0
                    ·
                      have hzb : (whereF D (addP p q) == 0) = true := by simp [hz0]
                      have HZ := Lib.hid hz0
                      clear hz0
                      go_wp2
                      go_ret
                      refine ⟨ret_bool ?_, (HK2.out.trans HXA.out).trans HK10.out⟩
                      rw [← HR.out]
                      unfold withinF
                      rw [← HST.out, HD.out]
                      have e2 : ((List.range (L.length - 1)).all fun i => decide (whereF D (addP (L.getD i (0, 0)) (L.getD (i + 1) (0, 0))) ≠ 0)) = false := by
                        rw [List.all_eq_false]
                        exact ⟨j, List.mem_range.2 (by omega), by rw [decide_eq_true_eq, HMID.out]; exact fun h => h HZ.out⟩
                      rw [e2]
                      simp
                    ·
                      have hzb : (whereF D (addP p q) == 0) = false := by simp [hz0]
                      have HZ := Lib.hid hz0
                      clear hz0
                      go_wp2
                      go_roundw
                      case rel =>
                        refine ⟨j + 2, by omega, by omega, by go_num, fun j2 h2 => ?_, HK10.out⟩
                        by_cases e : j2 = j
                        · subst e; rw [HMID.out]; exact HZ.out
                        · exact HALL.out j2 (by omega)
                      case measure => simp [intOf]; omega
                ·
                  go_wp2
                  go_ret
                  refine ⟨ret_bool ?_, (HK2.out.trans HXA.out).trans HKW2.out⟩
                  rw [← HR.out]
                  unfold withinF
                  rw [Hz.out, Hx.out, ← HST.out, HD.out]
                  have e1 : ((List.range l.length).all fun i => decide (meetF (edgeF l i) s ≠ 3)) = true := by
                    rw [List.all_eq_true]
                    exact fun j hj => decide_eq_true (HM3.out j (List.mem_range.1 hj))
                  have e2 : ((List.range (L.length - 1)).all fun i => decide (whereF D (addP (L.getD i (0, 0)) (L.getD (i + 1) (0, 0))) ≠ 0)) = true := by
                    rw [List.all_eq_true]
                    exact fun j hj => decide_eq_true (HALL.out j (by have := List.mem_range.1 hj; have := HLN2.out; omega))
                  rw [e1, e2, decide_eq_true HA.out, decide_eq_true HB.out]
                  rfl
  ·
    have c1 : (z != 0) = true := by simp [c0]
    go_wp2
    all_goals (go_ret; exact ⟨ret_bool (by rw [← HR.out]; unfold withinF; rw [Hz.out]; simp [c0]), HK1.out⟩)
end Go.Proofs.YtlglfcdobbocnaaGreat
