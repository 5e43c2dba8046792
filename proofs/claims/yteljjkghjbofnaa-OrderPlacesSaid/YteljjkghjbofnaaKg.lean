/- OrderMore. -/
import Derived.Test.YteljjkghjbofnaaNa
import Derived.Test.YteljjkghjbofnaaTu
import Derived.Deep.RegionHeld3
set_option maxRecDepth 100000
namespace Go.Proofs.Yteljjkghjbofnaa
open Go Go.Proofs Go.RowKit
attribute [local go_sem] Oper.semAt_some

/-- Two problems in variables. -/
structure Two (w X : World) (g0 g1 : Nat) (o p : Prob) (ao bo ap bp : Option Addr) (ca cb da db : Nat) : Prop where
  po : IsProb X o ao bo
  pp : IsProb X p ap bp
  b0 : ProbBox X g0 o ao ca bo cb
  b1 : ProbBox X g1 p ap da bp db
  k : Kept w X
theorem Two.kept {w X Y : World} {g0 g1 : Nat} {o p : Prob} {ao bo ap bp : Option Addr} {ca cb da db : Nat} (h : Two w X g0 g1 o p ao bo ap bp ca cb da db) (hk : Kept X Y) : Two w Y g0 g1 o p ao bo ap bp ca cb da db :=
  ⟨h.po.kept hk, h.pp.kept hk, h.b0.kept hk, h.b1.kept hk, h.k.trans hk⟩
theorem slim_prob {w : World} {o : Prob} {ao bo : Option Addr} (hA : Pairs w ao o.arcs) (hB : Pairs w bo o.near) (h : slimB o = true) : IsProb w o ao bo := by
  unfold slimB at h
  simp at h
  exact ⟨hA, hB, by omega, by omega⟩
theorem join_prob {o p : Prob} {X : World} {base : Nat} {xa ya : Option Addr} {xc yc : Nat} (h : (JoinR o p).2 = 0) (h1 : OwnG X base 83 2 pairC (.slice xa (JoinR o p).1.arcs.length xc) (JoinR o p).1.arcs) (h2 : OwnG X base 83 2 pairC (.slice ya (JoinR o p).1.near.length yc) (JoinR o p).1.near) : IsProb X (JoinR o p).1 xa ya := by
  obtain ⟨c1, c2, c3, c4⟩ := joinR_parts h
  obtain ⟨za, zc, e1, i1, -⟩ := h1.prs
  obtain ⟨za', zc', e2, i2, -⟩ := h2.prs
  cases e1
  cases e2
  have ha : (JoinR o p).1.arcs.length ≤ 1152 ∧ (JoinR o p).1.near.length ≤ 1152 := by
    have hl : ∀ A B : List (Int × Int), (uniP A B).length ≤ A.length + B.length := fun A B => by
      unfold uniP
      induction B generalizing A with
      | nil => simp
      | cons y B ih =>
        have h3 := ih (insP A y)
        have h4 : ∀ (l : List (Int × Int)) (x : Int × Int), (insP l x).length ≤ l.length + 1 := fun l x => by
          induction l with
          | nil => simp [insP]
          | cons z l ihl =>
            unfold insP
            split
            · simp only [List.length_cons]; omega
            · split
              · simp
              · simp
        have h5 := h4 A y
        simp only [List.foldl_cons, List.length_cons]
        omega
    rw [c4]
    have m1 := hl o.arcs p.arcs
    have m2 := hl o.near p.near
    have l1 := arcs_len c1
    have l2 := arcs_len c2
    have l3 := near_len c1
    have l4 := near_len c2
    exact ⟨by show (uniP o.arcs p.arcs).length ≤ _; omega, by show (uniP o.near p.near).length ≤ _; omega⟩
  exact ⟨i1, i2, by omega, by omega⟩

set_option maxHeartbeats 4000000 in
theorem OrderMore_any (o p : Prob) (ao bo ap bp : Option Addr) (ca cb da db : Nat) (dry more : Int) (w : World) (hA : Pairs w ao o.arcs) (hB : Pairs w bo o.near) (hC : Pairs w ap p.arcs) (hD : Pairs w bp p.near) (hna : ao = none → ca = 0) (hnb : bo = none → cb = 0) (hma : ap = none → da = 0) (hmb : bp = none → db = 0) :
    Calls Try.prog 18 #[probV o ao ca bo cb, probV p ap da bp db, .int .i64 dry, .int .i64 more] w (Gives (.bool true) w) := by
  have HO : Hid (slimB o = true → IsProb w o ao bo) := Lib.hid (slim_prob hA hB)
  have HP : Hid (slimB p = true → IsProb w p ap bp) := Lib.hid (slim_prob hC hD)
  have HNA := Lib.hid hna
  have HNB := Lib.hid hnb
  have HMA := Lib.hid hma
  have HMB := Lib.hid hmb
  clear hA hB hC hD hna hnb hma hmb
  go_enter Try.func18, Try.ntmps18
  go_wp2_with fail
  obtain ⟨w0, e0, hk0, hb0, e5⟩ := alloc_prob w o.N o.arcs o.near ao ca bo cb
  rw [e0]
  clear e0
  obtain ⟨w1, e1, hk1, hb1, e6⟩ := alloc_prob w0 p.N p.arcs p.near ap da bp db
  rw [e1]
  clear e1
  obtain ⟨g0, hg0⟩ : ∃ g0, w.heap.size = g0 := ⟨_, rfl⟩
  obtain ⟨g1, hg1⟩ : ∃ g1, w0.heap.size = g1 := ⟨_, rfl⟩
  rw [hg0] at hb0
  rw [hg1] at hb1
  try rw [e5]
  rw [hg1, hg0]
  have HB0 := Lib.hid (hb0.kept hk1)
  have HB1 := Lib.hid hb1
  have HK1 := Lib.hid (hk0.trans hk1)
  clear hk0 hb0 e5 hk1 hb1 e6 hg0 hg1
  obtain ⟨q0, q1, q2⟩ := HB0.out
  have qb := lt_of_cell q0
  go_wp2_with fail
  clear q0 q1 q2 qb
  refine (slim_any o ao bo ca cb w1).mono ?_
  rintro e w2 ⟨rfl, hk⟩
  have HK2 := Lib.hid (HK1.out.trans hk)
  have HB02 := Lib.hid (HB0.out.kept hk)
  have HB12 := Lib.hid (HB1.out.kept hk)
  clear hk HK1 HB0 HB1
  cases hs : slimB o
  · clear hs
    go_wp2_with fail
    refine (alive_any w2).mono ?_
    rintro e w3 ⟨rfl, hk⟩
    have HKZ := Lib.hid (HK2.out.trans hk)
    clear hk
    go_wp2
    go_ret
    exact ⟨rfl, HKZ.out⟩
  have HO2 := Lib.hid (HO.out hs)
  clear hs HO
  obtain ⟨q0, q1, q2⟩ := HB12.out
  have qb := lt_of_cell q0
  go_wp2_with fail
  clear q0 q1 q2 qb
  refine (slim_any p ap bp da db w2).mono ?_
  rintro e w3 ⟨rfl, hk⟩
  have HK3 := Lib.hid (HK2.out.trans hk)
  have HB03 := Lib.hid (HB02.out.kept hk)
  have HB13 := Lib.hid (HB12.out.kept hk)
  clear hk HK2 HB02 HB12
  cases hs : slimB p
  · clear hs
    go_wp2_with fail
    refine (alive_any w3).mono ?_
    rintro e w4 ⟨rfl, hk⟩
    have HKZ := Lib.hid (HK3.out.trans hk)
    clear hk
    go_wp2
    go_ret
    exact ⟨rfl, HKZ.out⟩
  have T3 : Hid (Two w w3 g0 g1 o p ao bo ap bp ca cb da db) := Lib.hid ⟨HO2.out.kept HK3.out, (HP.out hs).kept HK3.out, HB03.out, HB13.out, HK3.out⟩
  clear hs HP HO2 HK3 HB03 HB13
  by_cases hm0 : more < 0
  · have e1 : decide (more < 0) = true := decide_eq_true hm0
    clear hm0
    go_wp2_with fail
    refine (alive_any w3).mono ?_
    rintro e w4 ⟨rfl, hk⟩
    have HKZ := Lib.hid (T3.out.k.trans hk)
    clear hk
    go_wp2
    go_ret
    exact ⟨rfl, HKZ.out⟩
  have e1 : decide (more < 0) = false := decide_eq_false hm0
  by_cases hm1 : more > 30
  · have e2 : decide (more > 30) = true := decide_eq_true hm1
    clear hm0 hm1
    go_wp2_with fail
    refine (alive_any w3).mono ?_
    rintro e w4 ⟨rfl, hk⟩
    have HKZ := Lib.hid (T3.out.k.trans hk)
    clear hk
    go_wp2
    go_ret
    exact ⟨rfl, HKZ.out⟩
  have e2 : decide (more > 30) = false := decide_eq_false hm1
  have HM : Hid (0 ≤ more ∧ more ≤ 30) := Lib.hid ⟨by omega, by omega⟩
  clear hm0 hm1
  obtain ⟨q0, q1, q2⟩ := T3.out.b0
  have qb := lt_of_cell q0
  go_wp2_with fail
  clear q0 q1 q2 qb e1 e2
  have HLN := Lib.hid (wait_len o dry)
  obtain ⟨R, hR⟩ : ∃ R, WaitR o dry = R := ⟨_, rfl⟩
  have HR := Lib.hid hR
  clear hR
  have hF := Wait_any o ao bo ca cb dry w3 T3.out.po
  rw [HR.out] at hF HLN
  refine hF.mono ?_
  clear hF
  obtain ⟨⟨L1, L2⟩, er⟩ := R
  rintro e w4 ⟨a1, c1, a2, c2, rfl, hi1, hi2, hk⟩
  simp only [] at hi1 hi2 HLN
  have T4 := Lib.hid (T3.out.kept hk)
  have HI24 := Lib.hid hi2
  clear hk T3 hi1 hi2
  have hK : Kept w4 (w4.alloc (.cells #[.slice a1 L1.length c1, .slice a2 L2.length c2] 33)) := (Kept.refl _).alloc _
  have hX := SBox.new w4 (.slice a1 L1.length c1) (.slice a2 L2.length c2)
  obtain ⟨ta, hta⟩ : ∃ tb, w4.heap.size = tb := ⟨_, rfl⟩
  obtain ⟨w5, eA⟩ : ∃ x, w4.alloc (.cells #[.slice a1 L1.length c1, .slice a2 L2.length c2] 33) = x := ⟨_, rfl⟩
  rw [eA] at hK hX
  rw [hta] at hX
  have T5 := Lib.hid (T4.out.kept hK)
  have HI25 := Lib.hid (HI24.out.kept hK)
  have HXA := Lib.hid hX
  clear hK hX T4 HI24
  by_cases he : er = 0
  case neg =>
    have e1 : (er != 0) = true := by simp [he]
    have hz := wait_nil (o := o) (dry := dry) (by rw [HR.out]; exact he)
    rw [HR.out] at hz
    cases hz
    simp only [List.length_nil] at eA
    clear he
    go_wp2_with fail
    clear eA hta
    refine (alive_any w5).mono ?_
    rintro e w6 ⟨rfl, hk⟩
    have T6 := Lib.hid (T5.out.kept hk)
    have x0 := hk.cell HXA.out.c0
    have x1 := hk.cell HXA.out.c1
    have xl := lt_of_cell x0
    simp only [List.length_nil] at x0 x1
    clear hk
    go_wp2
    go_ret
    exact ⟨rfl, T6.out.k⟩
  have ez : (er != 0) = false := by simp [he]
  have HE := Lib.hid he
  clear he
  obtain ⟨P1, P2, P3, P4⟩ := wait_parts (o := o) (dry := dry) (by rw [HR.out]; exact HE.out)
  have hw : wrap64 (dry + more) = dry + more := IntWalk.wrap64_in _ (by have := HM.out; omega)
  have hw2 : IntKind.i64.wrap (dry + more) = dry + more := IntWalk.i64_in _ (by have := HM.out; omega)
  clear P1 P2 P3 P4
  obtain ⟨q0, q1, q2⟩ := T5.out.b0
  have qb := lt_of_cell q0
  go_wp2_with fail
  clear q0 q1 q2 qb hw hw2 eA hta ez
  have HLM := Lib.hid (wait_len o (dry + more))
  obtain ⟨R, hR⟩ : ∃ R, WaitR o (dry + more) = R := ⟨_, rfl⟩
  have HR2 := Lib.hid hR
  clear hR
  have hF := Wait_any o ao bo ca cb (dry + more) w5 T5.out.po
  rw [HR2.out] at hF HLM
  refine hF.mono ?_
  clear hF
  obtain ⟨⟨M1, M2⟩, ef⟩ := R
  rintro e w6 ⟨b1, d1, b2, d2, rfl, hi1, hi2, hk⟩
  simp only [] at hi1 hi2 HLM
  have T6 := Lib.hid (T5.out.kept hk)
  have HI26 := Lib.hid (HI25.out.kept hk)
  have HXA6 := Lib.hid (HXA.out.kept hk)
  have HJ26 := Lib.hid hi2
  clear hk T5 HI25 HXA hi1 hi2
  go_wp2_with fail
  have hK : Kept w6 (w6.alloc (.cells #[.slice b1 M1.length d1, .slice b2 M2.length d2] 33)) := (Kept.refl _).alloc _
  have hX := SBox.new w6 (.slice b1 M1.length d1) (.slice b2 M2.length d2)
  obtain ⟨tb, htb⟩ : ∃ tb, w6.heap.size = tb := ⟨_, rfl⟩
  rw [htb] at hX ⊢
  generalize w6.alloc (.cells #[.slice b1 M1.length d1, .slice b2 M2.length d2] 33) = w7 at *
  have T7 := Lib.hid (T6.out.kept hK)
  have HI27 := Lib.hid (HI26.out.kept hK)
  have HXA7 := Lib.hid (HXA6.out.kept hK)
  have HJ27 := Lib.hid (HJ26.out.kept hK)
  have HXB7 := Lib.hid hX
  clear hK hX htb T6 HI26 HXA6 HJ26
  have HLT : Hid (ef = 0 → decide (lastK M2 M2.length < lastK L2 L2.length) = false) := Lib.hid (by
    intro h
    subst h
    have := more_dry (o := o) (dry := dry) (more := more) (by rw [HR.out]; exact HE.out) (by rw [HR2.out]) HM.out.1
    rw [HR.out, HR2.out] at this
    have h5 : lastK L2 L2.length ≤ lastK M2 M2.length := this
    exact decide_eq_false (by omega))
  go_upto_region 7 with fail
  go_cut [71] (fun s71 wx => s71 = .bool false ∧ Kept w7 wx)
  case first =>
    have x0 := HXA7.out.c0
    have x1 := HXA7.out.c1
    have y0 := HXB7.out.c0
    have y1 := HXB7.out.c1
    have xl := lt_of_cell x0
    have yl := lt_of_cell y0
    by_cases hf : ef = 0
    · have e1 : (ef == 0) = true := by simp [hf]
      have hlt := HLT.out hf
      have HF1 := Lib.hid (last_any M2 b2 d2 w7.drew (HJ27.out.kept (Kept.refl _).drew) (by have := HLM.out.2; omega))
      have HF2 := Lib.hid (last_any L2 a2 c2 w7.drew (HI27.out.kept (Kept.refl _).drew) (by have := HLN.out.2; omega))
      clear hf
      generalize lastK M2 M2.length = n2 at *
      generalize lastK L2 L2.length = n1 at *
      refine region_tail 10 (by kernel_rfl) (by kernel_rfl) ?_
      simp only [List.take_succ_cons, List.take_zero, List.drop_succ_cons, List.drop_zero]
      iterate 5
        with_reducible refine wpStill_want ?_ (fun K hK => ?_)
        · rfl
        go_simp
        refine hK _ ?_
        clear hK K
      still_call Calls_still (HF1.out)
      iterate 2
        with_reducible refine wpStill_want ?_ (fun K hK => ?_)
        · rfl
        go_simp
        refine hK _ ?_
        clear hK K
      still_call Calls_still (HF2.out)
      iterate 1
        with_reducible refine wpStill_want ?_ (fun K hK => ?_)
        · rfl
        go_simp
        refine hK _ ?_
        clear hK K
      with_reducible refine wpStill_nil ?_
      go_wp2_with fail
      go_meet
      exact ⟨rfl, (Kept.refl _).drew⟩
    · have e1 : (ef == 0) = false := by simp [hf]
      clear hf
      refine region_tail 10 (by kernel_rfl) (by kernel_rfl) ?_
      simp only [List.take_succ_cons, List.take_zero, List.drop_succ_cons, List.drop_zero]
      iterate 3
        with_reducible refine wpStill_want ?_ (fun K hK => ?_)
        · rfl
        go_simp
        refine hK _ ?_
        clear hK K
      iterate 7
        with_reducible refine wpStill_skip ?_ ?_
        · rfl
        simp only [Act.put, List.setIfInBounds_toArray, List.set_cons_zero, List.set_cons_succ]
      with_reducible refine wpStill_nil ?_
      go_wp2_with fail
      go_meet
      exact ⟨rfl, (Kept.refl _).drew⟩
  case rest =>
    obtain ⟨rfl, hkc⟩ := hcut
    have TC := Lib.hid (T7.out.kept hkc)
    have HIC := Lib.hid (HI27.out.kept hkc)
    have HXAC := Lib.hid (HXA7.out.kept hkc)
    clear hkc T7 HI27 HXA7 HJ27 HXB7 HLT HLM HR2
    obtain ⟨q0, q1, q2⟩ := TC.out.b0
    obtain ⟨r0, r1, r2⟩ := TC.out.b1
    have qb := lt_of_cell q0
    have rb := lt_of_cell r0
    go_wp2_with fail
    clear q0 q1 q2 qb r0 r1 r2 rb
    have hF := Join_any o p ao bo ap bp ca cb da db wc TC.out.po TC.out.pp HNA.out HNB.out HMA.out HMB.out
    have HJP : Hid ((JoinR o p).2 = 0 → ∀ (X : World) (base : Nat) (xa ya : Option Addr) (xc yc : Nat), OwnG X base 83 2 pairC (.slice xa (JoinR o p).1.arcs.length xc) (JoinR o p).1.arcs → OwnG X base 83 2 pairC (.slice ya (JoinR o p).1.near.length yc) (JoinR o p).1.near → IsProb X (JoinR o p).1 xa ya) := Lib.hid fun h X base xa ya xc yc h1 h2 => join_prob h h1 h2
    have HMJ : Hid ((JoinR o p).2 = 0 → (WaitR o dry).2 = 0 → (WaitR (JoinR o p).1 dry).2 = 0 → lastK (WaitR o dry).1.2 (WaitR o dry).1.2.length ≤ lastK (WaitR (JoinR o p).1 dry).1.2 (WaitR (JoinR o p).1 dry).1.2.length) := Lib.hid fun h1 h2 h3 => more_join h1 h2 h3
    generalize JoinR o p = RJ at *
    obtain ⟨J, ej⟩ := RJ
    simp only [] at hF HJP HMJ
    refine hF.mono ?_
    clear hF
    rintro e w8 ⟨xa, xc, ya, yc, rfl, hoa, hob, hk⟩
    have T8 := Lib.hid (TC.out.kept hk)
    have HI8 := Lib.hid (HIC.out.kept hk)
    have HXA8 := Lib.hid (HXAC.out.kept hk)
    have HPJ : Hid (ej = 0 → IsProb w8 J xa ya) := Lib.hid fun h => HJP.out h w8 _ xa ya xc yc hoa hob
    clear hk TC HIC HXAC hoa hob HJP
    obtain ⟨w9, e9, hk9, hb9, -⟩ := alloc_prob w8 J.N J.arcs J.near xa xc ya yc
    obtain ⟨tj, htj⟩ : ∃ tj, w8.heap.size = tj := ⟨_, rfl⟩
    rw [htj] at hb9
    have T9 := Lib.hid (T8.out.kept hk9)
    have HI9 := Lib.hid (HI8.out.kept hk9)
    have HXA9 := Lib.hid (HXA8.out.kept hk9)
    have HPJ9 : Hid (ej = 0 → IsProb w9 J xa ya) := Lib.hid fun h => (HPJ.out h).kept hk9
    have HBJ : Hid (ProbBox w9 tj J xa xc ya yc) := Lib.hid hb9
    clear hk9 hb9 T8 HI8 HXA8 HPJ
    by_cases hj : ej = 0
    case neg =>
      have e1 : (ej != 0) = true := by simp [hj]
      clear hj
      go_wp2_with fail
      clear e9 htj
      refine (alive_any w9).mono ?_
      rintro e w10 ⟨rfl, hk⟩
      have HKZ := Lib.hid (T9.out.k.trans hk)
      clear hk
      go_wp2
      go_ret
      exact ⟨rfl, HKZ.out⟩
    have ez2 : (ej != 0) = false := by simp [hj]
    have HJE := Lib.hid hj
    clear hj
    obtain ⟨q0, q1, q2⟩ := HBJ.out
    have qb := lt_of_cell q0
    go_wp2_with fail
    clear q0 q1 q2 qb e9 htj ez2
    have HLJ := Lib.hid (wait_len J dry)
    obtain ⟨R, hR⟩ : ∃ R, WaitR J dry = R := ⟨_, rfl⟩
    have HR3 := Lib.hid hR
    clear hR
    have hF := Wait_any J xa ya xc yc dry w9 (HPJ9.out HJE.out)
    rw [HR3.out] at hF HLJ
    refine hF.mono ?_
    clear hF
    obtain ⟨⟨N1, N2⟩, eh⟩ := R
    rintro e w10 ⟨u1, v1, u2, v2, rfl, hi1, hi2, hk⟩
    simp only [] at hi1 hi2 HLJ
    have T10 := Lib.hid (T9.out.kept hk)
    have HI10 := Lib.hid (HI9.out.kept hk)
    have HXA10 := Lib.hid (HXA9.out.kept hk)
    have HJ10 := Lib.hid hi2
    clear hk T9 HI9 HXA9 hi1 hi2 HBJ HPJ9
    go_wp2_with fail
    have hK : Kept w10 (w10.alloc (.cells #[.slice u1 N1.length v1, .slice u2 N2.length v2] 33)) := (Kept.refl _).alloc _
    have hX := SBox.new w10 (.slice u1 N1.length v1) (.slice u2 N2.length v2)
    obtain ⟨tc, htc⟩ : ∃ tb, w10.heap.size = tb := ⟨_, rfl⟩
    rw [htc] at hX ⊢
    generalize w10.alloc (.cells #[.slice u1 N1.length v1, .slice u2 N2.length v2] 33) = w11 at *
    have T11 := Lib.hid (T10.out.kept hK)
    have HI11 := Lib.hid (HI10.out.kept hK)
    have HXA11 := Lib.hid (HXA10.out.kept hK)
    have HJ11 := Lib.hid (HJ10.out.kept hK)
    have HXC11 := Lib.hid hX
    clear hK hX htc T10 HI10 HXA10 HJ10
    have HGE : Hid (eh = 0 → decide (lastK N2 N2.length ≥ lastK L2 L2.length) = true) := Lib.hid (by
      intro h
      subst h
      have := HMJ.out HJE.out (by rw [HR.out]; exact HE.out) (by rw [HR3.out])
      rw [HR.out, HR3.out] at this
      have h5 : lastK L2 L2.length ≤ lastK N2 N2.length := this
      exact decide_eq_true h5)
    clear HMJ HR HR3
    have q0 := HXA11.out.c1
    have qa := lt_of_cell q0
    have r0 := HXC11.out.c1
    have ra := lt_of_cell r0
    by_cases hh : eh = 0
    · have e1 : (eh != 0) = false := by simp [hh]
      have hge := HGE.out hh
      have HL1 : Hid (∀ X, Kept w11 X → Calls Try.prog 33 #[.slice u2 N2.length v2] X (Tells (.int .i64 (lastK N2 N2.length)) X)) := Lib.hid fun X h => last_any N2 u2 v2 X (HJ11.out.kept h) (by have := HLJ.out.2; omega)
      have HL2 : Hid (∀ X, Kept w11 X → Calls Try.prog 33 #[.slice a2 L2.length c2] X (Tells (.int .i64 (lastK L2 L2.length)) X)) := Lib.hid fun X h => last_any L2 a2 c2 X (HI11.out.kept h) (by have := HLN.out.2; omega)
      clear hh HGE
      generalize lastK N2 N2.length = n2 at *
      generalize lastK L2 L2.length = n1 at *
      go_wp2_with fail
      refine region_class (fun Z => Kept w11 Z) 14 (by kernel_rfl) (by kernel_rfl) (Kept.refl _).drew ?_
      simp only [List.take_succ_cons, List.take_zero, List.drop_succ_cons, List.drop_zero]
      refine wpQuiet_yield (.bool true) (by rfl) (fun Z hZ => ?_) ?_
      · go_simp
        exact (alive_any Z).mono fun e Z' h => ⟨h.1, hZ.trans h.2⟩
      simp only [Act.put, List.setIfInBounds_toArray, List.set_cons_zero, List.set_cons_succ]
      refine wpQuiet_yield (.bool true) (by rfl) (fun Z hZ => ?_) ?_
      · go_simp
      simp only [Act.put, List.setIfInBounds_toArray, List.set_cons_zero, List.set_cons_succ]
      refine wpQuiet_yield (.int .i64 eh) (by rfl) (fun Z hZ => ?_) ?_
      · go_simp
      simp only [Act.put, List.setIfInBounds_toArray, List.set_cons_zero, List.set_cons_succ]
      refine wpQuiet_yield (.bool false) (by rfl) (fun Z hZ => ?_) ?_
      · go_simp
      simp only [Act.put, List.setIfInBounds_toArray, List.set_cons_zero, List.set_cons_succ]
      refine wpQuiet_yield (.bool false) (by rfl) (fun Z hZ => ?_) ?_
      · go_simp
      simp only [Act.put, List.setIfInBounds_toArray, List.set_cons_zero, List.set_cons_succ]
      refine wpQuiet_yield (.pointer (some ⟨tc, 1, none⟩)) (by rfl) (fun Z hZ => ?_) ?_
      · go_simp
      simp only [Act.put, List.setIfInBounds_toArray, List.set_cons_zero, List.set_cons_succ]
      refine wpQuiet_yield (.slice u2 N2.length v2) (by rfl) (fun Z hZ => ?_) ?_
      · have q := hZ.cell r0
        have ql := lt_of_cell q
        go_simp
      simp only [Act.put, List.setIfInBounds_toArray, List.set_cons_zero, List.set_cons_succ]
      refine wpQuiet_yield (.int .i64 n2) (by rfl) (fun Z hZ => ?_) ?_
      · go_simp
        exact (HL1.out Z hZ).mono fun e Z' h => ⟨h.1, h.2 ▸ hZ⟩
      simp only [Act.put, List.setIfInBounds_toArray, List.set_cons_zero, List.set_cons_succ]
      refine wpQuiet_yield (.pointer (some ⟨ta, 1, none⟩)) (by rfl) (fun Z hZ => ?_) ?_
      · go_simp
      simp only [Act.put, List.setIfInBounds_toArray, List.set_cons_zero, List.set_cons_succ]
      refine wpQuiet_yield (.slice a2 L2.length c2) (by rfl) (fun Z hZ => ?_) ?_
      · have q := hZ.cell q0
        have ql := lt_of_cell q
        go_simp
      simp only [Act.put, List.setIfInBounds_toArray, List.set_cons_zero, List.set_cons_succ]
      refine wpQuiet_yield (.int .i64 n1) (by rfl) (fun Z hZ => ?_) ?_
      · go_simp
        exact (HL2.out Z hZ).mono fun e Z' h => ⟨h.1, h.2 ▸ hZ⟩
      simp only [Act.put, List.setIfInBounds_toArray, List.set_cons_zero, List.set_cons_succ]
      refine wpQuiet_yield (.bool true) (by rfl) (fun Z hZ => ?_) ?_
      · go_simp
      simp only [Act.put, List.setIfInBounds_toArray, List.set_cons_zero, List.set_cons_succ]
      refine wpQuiet_yield (.bool true) (by rfl) (fun Z hZ => ?_) ?_
      · go_simp
      simp only [Act.put, List.setIfInBounds_toArray, List.set_cons_zero, List.set_cons_succ]
      refine wpQuiet_yield (.bool true) (by rfl) (fun Z hZ => ?_) ?_
      · go_simp
      simp only [Act.put, List.setIfInBounds_toArray, List.set_cons_zero, List.set_cons_succ]
      refine wpQuiet_nil ?_
      intro w12 hk12
      have HKZ := Lib.hid (T11.out.k.trans hk12)
      clear hk12
      go_wp2
      go_ret
      exact ⟨rfl, HKZ.out⟩
    · have e1 : (eh != 0) = true := by simp [hh]
      clear hh HGE
      go_wp2_with fail
      refine region_class (fun Z => Kept w11 Z) 14 (by kernel_rfl) (by kernel_rfl) (Kept.refl _).drew ?_
      simp only [List.take_succ_cons, List.take_zero, List.drop_succ_cons, List.drop_zero]
      refine wpQuiet_yield (.bool true) (by rfl) (fun Z hZ => ?_) ?_
      · go_simp
        exact (alive_any Z).mono fun e Z' h => ⟨h.1, hZ.trans h.2⟩
      simp only [Act.put, List.setIfInBounds_toArray, List.set_cons_zero, List.set_cons_succ]
      refine wpQuiet_yield (.bool true) (by rfl) (fun Z hZ => ?_) ?_
      · go_simp
      simp only [Act.put, List.setIfInBounds_toArray, List.set_cons_zero, List.set_cons_succ]
      refine wpQuiet_yield (.int .i64 eh) (by rfl) (fun Z hZ => ?_) ?_
      · go_simp
      simp only [Act.put, List.setIfInBounds_toArray, List.set_cons_zero, List.set_cons_succ]
      refine wpQuiet_yield (.bool true) (by rfl) (fun Z hZ => ?_) ?_
      · go_simp
      simp only [Act.put, List.setIfInBounds_toArray, List.set_cons_zero, List.set_cons_succ]
      refine wpQuiet_yield (.bool true) (by rfl) (fun Z hZ => ?_) ?_
      · go_simp
      simp only [Act.put, List.setIfInBounds_toArray, List.set_cons_zero, List.set_cons_succ]
      iterate 7
        with_reducible refine wpQuiet_skip ?_ ?_
        · rfl
        simp only [Act.put, List.setIfInBounds_toArray, List.set_cons_zero, List.set_cons_succ]
      refine wpQuiet_yield (.bool true) (by rfl) (fun Z hZ => ?_) ?_
      · go_simp
      simp only [Act.put, List.setIfInBounds_toArray, List.set_cons_zero, List.set_cons_succ]
      refine wpQuiet_yield (.bool true) (by rfl) (fun Z hZ => ?_) ?_
      · go_simp
      simp only [Act.put, List.setIfInBounds_toArray, List.set_cons_zero, List.set_cons_succ]
      refine wpQuiet_nil ?_
      intro w12 hk12
      have HKZ := Lib.hid (T11.out.k.trans hk12)
      clear hk12
      go_wp2
      go_ret
      exact ⟨rfl, HKZ.out⟩
end Go.Proofs.Yteljjkghjbofnaa
