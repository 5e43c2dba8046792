/- ref.Reduce. -/
import Derived.Test.YteljjkghjbofnaaTe
set_option maxRecDepth 100000
namespace Go.Proofs.Yteljjkghjbofnaa
open Go Go.Proofs Go.RowKit
attribute [local go_sem] Oper.semAt_some

/-- Does a chain of two chains lead from a to b, by a patch below n? -/
def lgB (want : Mx) (n a b : Nat) : Bool := (List.range n).any fun c => want a c && want c b

set_option maxHeartbeats 4000000 in
theorem RReduce_any (o : Prob) (ao bo : Option Addr) (ca cb : Nat) (w : World) (ho : IsProb w o ao bo) (hlen : o.near.length < 1099511627776) (hlen2 : o.arcs.length < 1099511627776) (hnil : bo = none → cb = 0) :
    Calls Try.prog 58 #[probV o ao ca bo cb] w (ProbPost (ReduceR o).1 (ReduceR o).2 w) := by
  have HO := Lib.hid ho
  have HLEN := Lib.hid hlen
  have HNIL := Lib.hid hnil
  have HLA0 := Lib.hid hlen2
  clear ho hlen hnil hlen2
  obtain ⟨P, hP⟩ : ∃ P, (ReduceR o).1 = P := ⟨_, rfl⟩
  obtain ⟨er, her⟩ : ∃ er, (ReduceR o).2 = er := ⟨_, rfl⟩
  rw [hP, her]
  have HPP := Lib.hid hP
  have HER := Lib.hid her
  clear hP her
  go_enter Try.func58, Try.ntmps58
  go_wp2_with fail
  obtain ⟨w0, e0, hk0, hb0, e5⟩ := alloc_prob w o.N o.arcs o.near ao ca bo cb
  rw [e0]
  clear e0
  have HB2 := Lib.hid (PBox.new w0 0 (.slice none 0 0) (.slice none 0 0))
  have HS0 : Hid (w.heap.size ≤ w0.heap.size) := Lib.hid hk0.size
  have HK1 := Lib.hid (hk0.alloc (.cells #[.int .i64 0, .slice none 0 0, .slice none 0 0] 24))
  have hb1 := hb0.kept ((Kept.refl _).alloc (.cells #[.int .i64 0, .slice none 0 0, .slice none 0 0] 24))
  clear hk0 hb0
  generalize w0.alloc (.cells #[.int .i64 0, .slice none 0 0, .slice none 0 0] 24) = w1 at *
  obtain ⟨g2, hg2⟩ : ∃ g2, w.heap.size + 1 = g2 := ⟨_, rfl⟩
  rw [← e5, hg2] at HB2 HS0
  rw [hg2]
  have HG2 := Lib.hid hg2
  clear hg2 e5
  have HB1 := Lib.hid hb1
  clear hb1
  refine (RCheck_any o ao bo ca cb w1 (HO.out.kept HK1.out)).mono ?_
  rintro e w2 ⟨rfl, hk2⟩
  have HK2 := Lib.hid (HK1.out.trans hk2)
  have HBX := Lib.hid (HB1.out.kept hk2)
  have HP2 := Lib.hid (HB2.out.kept hk2)
  clear hk2 HB1 HB2
  by_cases hc : chk o = 0
  · have HC := Lib.hid hc
    have HN := Lib.hid (webOf_n hc)
    have HLA : Hid (o.arcs.length < 1099511627776) := Lib.hid HLA0.out
    have HNN := Lib.hid (webOf_nI hc)
    rw [hc]
    obtain ⟨q0, q1, q2⟩ := HBX.out
    have qb := lt_of_cell q0
    go_wp2_with fail
    clear q0 q1 q2 qb
    refine (Rcircular_any o ao bo ca cb w2 (HO.out.kept HK2.out) HC.out).mono ?_
    rintro e w2' ⟨rfl, hk2⟩
    have HK2' := Lib.hid (HK2.out.trans hk2)
    have HBX' := Lib.hid (HBX.out.kept hk2)
    have HP2' := Lib.hid (HP2.out.kept hk2)
    clear hk2 HK2 HBX HP2
    have HK2 := HK2'
    have HBX := HBX'
    have HP2 := HP2'
    clear HK2' HBX' HP2'
    generalize w2' = w2 at *
    cases hcb : circB (webOf o)
    case true =>
      have HX : Hid ((⟨0, [], []⟩ : Prob) = P ∧ 50 = er) := Lib.hid (by
        rw [← HPP.out, ← HER.out]
        have : errS o = 50 := by unfold errS; rw [if_pos hc, hcb]; rfl
        unfold ReduceR
        rw [this]
        exact ⟨rfl, rfl⟩)
      clear hc hcb
      have HP9 := Lib.hid (HP2.out.set 0 (.slice none 0 0) (.slice none 0 0))
      obtain ⟨p0, p1, p2, pf⟩ := HP2.out
      have f0 := pf 0
      have f1 := pf 1
      have f2 := pf 2
      have pb := lt_of_cell p0
      clear pf
      go_wp2
      refine bodyPost_ret (results_cell_tmp rfl _ _ ⟨g2, 0, none⟩ rfl _ (load24 HP9.out.c0 HP9.out.c1 HP9.out.c2)) rfl ?_
      rw [← HX.out.1, ← HX.out.2]
      refine ⟨none, 0, none, 0, rfl, OwnG.nil _ _ _ _ _, OwnG.nil _ _ _ _ _, ?_⟩
      exact ((HK2.out.setCell (p := ⟨g2, 0, none⟩) HS0.out _).setCell (p := ⟨g2, 1, none⟩) HS0.out _).setCell (p := ⟨g2, 2, none⟩) HS0.out _
    case false =>
     have HX : Hid (reduceP o = P ∧ 0 = er) := Lib.hid (by
       rw [← HPP.out, ← HER.out]
       have : errS o = 0 := by unfold errS; rw [if_pos hc, hcb]; rfl
       unfold ReduceR
       rw [if_pos this]
       exact ⟨rfl, rfl⟩)
     clear hc hcb
     go_upto_region 7 with fail
     obtain ⟨q0, q1, q2⟩ := HBX.out
     simp only [] at q0 q1 q2
     have qb := lt_of_cell q0
     have HS2 : Hid (g2 < w2.heap.size) := Lib.hid (lt_of_cell HP2.out.c0)
     go_cut [6] (fun s6 wx => ∃ (bx : Nat) (vb : Value), s6 = .pointer (some ⟨bx, 0, none⟩) ∧ w2.heap.size ≤ bx ∧ Kept w2 wx ∧ PBox wx bx o.N (.slice none 0 0) vb ∧ OwnG wx w2.heap.size 83 2 pairC vb o.near ∧ vb.ownBlock ≠ some bx)
     case first =>
       go_region_law (refine step_copy rfl (.tmp 24) (.tmp 26) rfl w2 _ (by first | exact OwnE w2 (Nat.le_refl _) | exact (OwnE w2 (Nat.le_refl _)).kept (((Kept.refl _).alloc _).drew) | exact (OwnE (w2.alloc _) (by simp)).kept ((Kept.refl _).drew) | exact OwnE (w2.alloc _) (by simp)) (by simp [Act.eval]) o.near bo cb (by simp [Act.eval]) (by first | exact ((Kept.refl _).alloc _).drew | exact (((Kept.refl _).alloc _).alloc _).drew) (HO.out.kept HK2.out).near HNIL.out HLEN.out ?_; intro v' w3 hown3 hk3 hg3; obtain ⟨va, vc, rfl, -, -⟩ := hown3.prs; have n1 := (HBX.out.kept hk3).c0; have n2 := lt_of_cell n1; (first | (have hbx : PBox w3 (w2.heap.size + 1) 0 (.slice none 0 0) (.slice none 0 0) := PBox.grownNe (pboxA w2) hg3 (neA _); obtain ⟨x0, x1, x2, xf⟩ := hbx; have y0 := xf 0; have y1 := xf 1; have y2 := xf 2; have y3 := lt_of_cell x0) | (have hbx : PBox w3 w2.heap.size 0 (.slice none 0 0) (.slice none 0 0) := PBox.grownNe (pboxB w2) hg3 (neB _ _); obtain ⟨x0, x1, x2, xf⟩ := hbx; have y0 := xf 0; have y1 := xf 1; have y2 := xf 2; have y3 := lt_of_cell x0) | skip))
       all_goals
         go_wp2_with fail
         go_meet
         first
           | exact ⟨w3.heap.size, _, rfl, hk3.size, hk3.alloc _, PBox.new w3 _ _ _, OwnG.kept hown3 ((Kept.refl _).alloc _), fun e => absurd (OwnG.lt hown3 _ e).2 (Nat.lt_irrefl _)⟩
           | exact ⟨w2.heap.size + 1, _, rfl, Nat.le_succ _, ((hk3.setCell (p := ⟨w2.heap.size + 1, 0, none⟩) (Nat.le_succ _) _).setCell (p := ⟨w2.heap.size + 1, 1, none⟩) (Nat.le_succ _) _).setCell (p := ⟨w2.heap.size + 1, 2, none⟩) (Nat.le_succ _) _, PBox.set ⟨x0, x1, x2, xf⟩ _ _ _, ((OwnG.setNe hown3 (a := ⟨w2.heap.size + 1, 0, none⟩) (OwnG.ne_box hown3 hg3 (hboxA _) (neA _)) _).setNe (a := ⟨w2.heap.size + 1, 1, none⟩) (OwnG.ne_box hown3 hg3 (hboxA _) (neA _)) _).setNe (a := ⟨w2.heap.size + 1, 2, none⟩) (OwnG.ne_box hown3 hg3 (hboxA _) (neA _)) _, OwnG.ne_box hown3 hg3 (hboxA _) (neA _)⟩
           | exact ⟨w2.heap.size, _, rfl, Nat.le_refl _, ((hk3.setCell (p := ⟨w2.heap.size, 0, none⟩) (Nat.le_refl _) _).setCell (p := ⟨w2.heap.size, 1, none⟩) (Nat.le_refl _) _).setCell (p := ⟨w2.heap.size, 2, none⟩) (Nat.le_refl _) _, PBox.set ⟨x0, x1, x2, xf⟩ _ _ _, ((OwnG.setNe hown3 (a := ⟨w2.heap.size, 0, none⟩) (OwnG.ne_box hown3 hg3 (hboxB _) (neB _ _)) _).setNe (a := ⟨w2.heap.size, 1, none⟩) (OwnG.ne_box hown3 hg3 (hboxB _) (neB _ _)) _).setNe (a := ⟨w2.heap.size, 2, none⟩) (OwnG.ne_box hown3 hg3 (hboxB _) (neB _ _)) _, OwnG.ne_box hown3 hg3 (hboxB _) (neB _ _)⟩
     case rest =>
       clear q0 q1 q2 qb
       obtain ⟨bx, vb, rfl, hbx, hk, hpb, hov, hob⟩ := hcut
       have HBXL := Lib.hid hbx
       have HK3 := Lib.hid (HK2.out.trans hk)
       have HB3 := Lib.hid (HBX.out.kept hk)
       have HP3 := Lib.hid (HP2.out.kept hk)
       have HC3 := Lib.hid hpb
       have HOV3 := Lib.hid hov
       have HOB := Lib.hid hob
       clear hbx hk hpb hov hob HBX HP2
       obtain ⟨q0, q1, q2⟩ := HB3.out
       have qb := lt_of_cell q0
       go_wp2_with fail
       clear q0 q1 q2 qb
       refine (Chained_any o ao bo ca cb wc (HO.out.kept HK3.out) HC.out).mono ?_
       rintro e w5 ⟨t, g, rfl, hm, hk5⟩
       have HM := Lib.hid hm
       have HK5 := Lib.hid (HK3.out.trans hk5)
       have HB5 := Lib.hid (HB3.out.kept hk5)
       have HP5 := Lib.hid (HP3.out.kept hk5)
       have HC5 := Lib.hid (HC3.out.kept hk5)
       have HOV5 := Lib.hid (HOV3.out.kept hk5)
       have HBL : Hid (bx < wc.heap.size) := Lib.hid (lt_of_cell HC3.out.c0)
       have HSZ5 : Hid (wc.heap.size ≤ w5.heap.size) := Lib.hid hk5.size
       have HVL : Hid (∀ j, vb.ownBlock = some j → j < w5.heap.size) := Lib.hid fun j e => (HOV5.out.lt j e).2
       clear hm hk5 HB3 HP3 HC3 HOV3 HK3
       have HT : Hid (t ≠ bx ∧ ∀ a, a < (webOf o).n → g a ≠ bx) := Lib.hid ⟨by have := HM.out.tb; have := HBL.out; omega, fun a ha => by have := (HM.out.gb a ha).1; have := HBL.out; omega⟩
       have HROW : Hid (∀ X, FrX w5 X bx → ∀ a, a < (webOf o).n → X.cell? ⟨t, a, none⟩ = some (.slice (some ⟨g a, 0, none⟩) (webOf o).n (webOf o).n)) := Lib.hid fun X hf a ha => hf.cell _ _ _ HT.out.1 (HM.out.row a ha)
       have HVAL : Hid (∀ X, FrX w5 X bx → ∀ a b, a < (webOf o).n → b < (webOf o).n → X.cell? ⟨g a, b, none⟩ = some (.bool (closeW (webOf o) a b))) := Lib.hid fun X hf a b ha hb => hf.cell _ _ _ (HT.out.2 a ha) (by
         have := HM.out.val a b ha hb
         rw [chM_reach HC.out ha] at this
         exact this)
       have HBX0 : Hid (∀ X, FrX w5 X bx → X.cell? ⟨w.heap.size, 0, none⟩ = some (.int .i64 o.N)) := Lib.hid fun X hf => hf.cell _ _ _ (by have := HG2.out; have := HS2.out; have := HBXL.out; omega) HB5.out.c0
       have HARC : Hid (∀ X, FrX w5 X bx → Pairs X ao o.arcs) := Lib.hid fun X hf i hi => by
         obtain ⟨B, off, e, c0, c1⟩ := HO.out.arcs i hi
         have hB := lt_of_cell c0
         have hne : B ≠ bx := by have := HG2.out; have := HS2.out; have := HBXL.out; omega
         exact ⟨B, off, e, hf.cell _ _ _ hne (HK5.out.cell c0), hf.cell _ _ _ hne (HK5.out.cell c1)⟩
       have HBX1 : Hid (∀ X, FrX w5 X bx → X.cell? ⟨w.heap.size, 1, none⟩ = some (.slice ao o.arcs.length ca)) := Lib.hid fun X hf => hf.cell _ _ _ (by have := HG2.out; have := HS2.out; have := HBXL.out; omega) HB5.out.c1
       have HXX : Hid ((⟨o.N, o.arcs.filter (fun x => !lgB (closeW (webOf o)) (webOf o).n x.1.toNat x.2.toNat), o.near⟩ : Prob) = P ∧ 0 = er) := Lib.hid ⟨by
         rw [← HX.out.1]
         unfold reduceP
         rw [← reduce_filter HC.out]
         rfl, HX.out.2⟩
       have HPR : Hid (∀ k, (h : k < o.arcs.length) → ∃ a b : Nat, o.arcs[k] = ((a : Int), (b : Int)) ∧ a < (webOf o).n ∧ b < (webOf o).n) := Lib.hid fun k h => pair_nat HNN.out (pair_of_chk HC.out).2.2.1 h
       have hla := HO.out.la
       have HNWI := HNN.out
       have hn24 := HN.out
       clear HX HC HM HB5
       generalize closeW (webOf o) = want at *
       generalize (webOf o).n = n at *
       have HNI := Lib.hid HNWI
       clear HNWI
       go_wp2
       go_loopw [8] (fun i wr => ∃ (a : Nat) (va : Value), a ≤ o.arcs.length ∧ i = .int .i64 a ∧ Kept w wr ∧ FrX w5 wr bx ∧ PBox wr bx o.N va vb ∧ OwnG wr w2.heap.size 83 2 pairC vb o.near ∧ OwnG wr w5.heap.size 83 2 pairC va ((o.arcs.take a).filter fun x => !lgB want n x.1.toNat x.2.toNat)) (fun i _ => o.arcs.length - (intOf i).toNat)
       case atStart => exact ⟨0, _, Nat.zero_le _, rfl, HK5.out, FrX.refl _ _, HC5.out, HOV5.out, OwnG.nil _ _ _ _ _⟩
       case round =>
         obtain ⟨i, va, hi, rfl, hk, hfr, hbc, hov, hoa⟩ := hrel
         have HKC := Lib.hid hk
         have HFR := Lib.hid hfr
         have HBC := Lib.hid hbc
         have HOV := Lib.hid hov
         have HOA := Lib.hid hoa
         have q0 := HBX0.out _ hfr
         have q1 := HBX1.out _ hfr
         have qb := lt_of_cell q0
         by_cases hilt : i < o.arcs.length
         · obtain ⟨a, b, hab, ha, hbn⟩ := HPR.out i hilt
           obtain ⟨B, off, rfl, c0, c1⟩ := HARC.out _ hfr i hilt
           rw [hab] at c0 c1
           have HIL := Lib.hid hilt
           have HAB := Lib.hid (And.intro ha hbn)
           have HFS : Hid ((o.arcs.take (i + 1)).filter (fun x => !lgB want n x.1.toNat x.2.toNat) = (o.arcs.take i).filter (fun x => !lgB want n x.1.toNat x.2.toNat) ++ if (!lgB want n a b) = true then [((a : Int), (b : Int))] else []) := Lib.hid (by
             rw [List.take_succ_eq_append_getElem hilt, List.filter_append, hab, List.filter_cons]
             simp only [Int.toNat_natCast, List.filter_nil])
           have HLN : Hid (((o.arcs.take i).filter (fun x => !lgB want n x.1.toNat x.2.toNat)).length < 1099511627775) := Lib.hid (by
             have h1 := List.length_filter_le (fun x : Int × Int => !lgB want n x.1.toNat x.2.toNat) (o.arcs.take i)
             rw [List.length_take] at h1
             have := HLA.out
             omega)
           have hKA : Kept wr (wr.alloc (.cells #[.int .i64 (a : Int), .int .i64 (b : Int)] 83)) := (Kept.refl _).alloc _
           have HKA := Lib.hid hKA
           have HPC : Hid ((wr.alloc (.cells #[.int .i64 (a : Int), .int .i64 (b : Int)] 83)).cell? ⟨wr.heap.size, 0, none⟩ = some (.int .i64 (a : Int)) ∧ (wr.alloc (.cells #[.int .i64 (a : Int), .int .i64 (b : Int)] 83)).cell? ⟨wr.heap.size, 1, none⟩ = some (.int .i64 (b : Int))) := Lib.hid ⟨by simp [go_sem], by simp [go_sem]⟩
           clear hk hfr hbc hov hoa hKA hab
           generalize (o.arcs.take i).filter (fun x => !lgB want n x.1.toNat x.2.toNat) = pre at *
           go_wp2
           clear q0 q1 qb c0 c1
           obtain ⟨tb, htb⟩ : ∃ tb, wr.heap.size = tb := ⟨_, rfl⟩
           rw [htb] at HPC ⊢
           clear htb
           generalize wr.alloc (.cells #[.int .i64 (a : Int), .int .i64 (b : Int)] 83) = wa at *
           have HFA : Hid (FrX w5 wa bx) := Lib.hid (HFR.out.kept HKA.out)
           go_loopw [10, 11] (fun g c wi => ∃ c' : Nat, c' ≤ n ∧ c = .int .i64 c' ∧ g = .bool (lgB want c' a b) ∧ Kept wa wi) (fun _ c _ => n - (intOf c).toNat)
           case atStart => exact ⟨0, Nat.zero_le _, rfl, rfl, Kept.refl _⟩
           case round =>
             obtain ⟨c', hc', rfl, rfl, hkw⟩ := hrel
             have HKW := Lib.hid hkw
             have hfi := HFA.out.kept hkw
             have q0 := HBX0.out _ hfi
             have qb := lt_of_cell q0
             have t0 := hkw.cell HPC.out.1
             have t1 := hkw.cell HPC.out.2
             by_cases hclt : c' < n
             · have hci : decide ((c' : Int) < o.N) = true := decide_eq_true (by have := HNI.out; omega)
               have han := HAB.out.1
               have hbn := HAB.out.2
               have r0 := HROW.out _ hfi a han
               have r1 := HROW.out _ hfi c' hclt
               have v0 := HVAL.out _ hfi a c' han hclt
               have v1 := HVAL.out _ hfi c' b hclt hbn
               have HS : Hid (lgB want (c' + 1) a b = (lgB want c' a b || (want a c' && want c' b))) := Lib.hid (by unfold lgB; rw [List.range_succ, List.any_append]; simp)
               clear hkw hfi
               generalize want a c' = x1 at *
               generalize want c' b = x2 at *
               generalize lgB want c' a b = lg at *
               go_wp2
               refine region_tail 21 (by kernel_rfl) (by kernel_rfl) ?_
               simp only [List.take_succ_cons, List.take_zero, List.drop_succ_cons, List.drop_zero]
               cases lg
               · cases x1
                 · simp only [Bool.false_or, Bool.false_and] at HS
                   iterate 11
                     with_reducible refine wpStill_want ?_ (fun K hK => ?_)
                     · rfl
                     go_simp
                     refine hK _ ?_
                     clear hK K
                   iterate 8
                     with_reducible refine wpStill_skip ?_ ?_
                     · rfl
                     simp only [Act.put, List.setIfInBounds_toArray, List.set_cons_zero, List.set_cons_succ]
                   iterate 2
                     with_reducible refine wpStill_want ?_ (fun K hK => ?_)
                     · rfl
                     go_simp
                     refine hK _ ?_
                     clear hK K
                   with_reducible refine wpStill_nil ?_
                   go_wp2
                   go_roundw
                   case measure => simp [intOf] <;> omega
                   case rel => exact ⟨c' + 1, by omega, by go_num, by rw [HS.out], HKW.out.drew⟩
                 · simp only [Bool.false_or, Bool.true_and] at HS
                   iterate 21
                     with_reducible refine wpStill_want ?_ (fun K hK => ?_)
                     · rfl
                     go_simp
                     refine hK _ ?_
                     clear hK K
                   with_reducible refine wpStill_nil ?_
                   go_wp2
                   go_roundw
                   case measure => simp [intOf] <;> omega
                   case rel => exact ⟨c' + 1, by omega, by go_num, by rw [HS.out], HKW.out.drew⟩
               · simp only [Bool.true_or] at HS
                 iterate 2
                   with_reducible refine wpStill_want ?_ (fun K hK => ?_)
                   · rfl
                   go_simp
                   refine hK _ ?_
                   clear hK K
                 iterate 18
                   with_reducible refine wpStill_skip ?_ ?_
                   · rfl
                   simp only [Act.put, List.setIfInBounds_toArray, List.set_cons_zero, List.set_cons_succ]
                 iterate 1
                   with_reducible refine wpStill_want ?_ (fun K hK => ?_)
                   · rfl
                   go_simp
                   refine hK _ ?_
                   clear hK K
                 with_reducible refine wpStill_nil ?_
                 go_wp2
                 go_roundw
                 case measure => simp [intOf] <;> omega
                 case rel => exact ⟨c' + 1, by omega, by go_num, by rw [HS.out], HKW.out.drew⟩
             · have hci : decide ((c' : Int) < o.N) = false := decide_eq_false (by have := HNI.out; omega)
               obtain rfl : c' = n := by omega
               have HFI := Lib.hid hfi
               have HKI := Lib.hid (HKA.out.trans HKW.out)
               clear hclt hc' hkw hfi
               generalize hlg : lgB want c' a b = lg at *
               have HLG := Lib.hid hlg
               clear hlg
               cases lg
               · have HF2 : Hid ((o.arcs.take (i + 1)).filter (fun x => !lgB want c' x.1.toNat x.2.toNat) = pre ++ [((a : Int), (b : Int))]) := Lib.hid (by rw [HFS.out]; rfl)
                 obtain ⟨p0, p1, p2, pf⟩ := HBC.out.kept HKI.out
                 have f1 := pf 1
                 have pb := lt_of_cell p0
                 have tl := lt_of_cell t0
                 clear pf
                 have HBC2 := Lib.hid (HBC.out.kept HKI.out)
                 have HOV2 := Lib.hid (HOV.out.kept HKI.out)
                 have HOA2 := Lib.hid (HOA.out.kept HKI.out)
                 have HKC2 := Lib.hid (HKC.out.trans HKI.out)
                 have hHA : Kept wr (wr.alloc (.cells #[.int .i64 (a : Int), .int .i64 (b : Int)] 83)) := (Kept.refl _).alloc _
                 have HHA := Lib.hid hHA
                 clear hHA HBC HOV HOA HKC
                 go_wp2_with (at_builtin; refine append_g _ rfl _ _ 22 rfl w5.heap.size 83 2 16 _ pairC pairC_len pairC_one Try.underlying22 info83 rfl (by decide) (by decide) va pre rfl (HOA2.out.kept HHA.out) wr.heap.size 1 [((a : Int), (b : Int))] rfl (pair_newA wr ((a : Int), (b : Int))) (by have := HLN.out; simp only [List.length_cons, List.length_nil]; omega) (by have := HFI.out.size; simp; omega) ?_; intro v' w8 hown4 hg4 _; obtain ⟨xa, xc, rfl, -, -⟩ := hown4.prs; have HO4 := Lib.hid hown4; have HG4 := Lib.hid hg4; have HB4 : Hid (PBox w8 bx o.N va vb) := Lib.hid ((HBC2.out.kept HHA.out).grownNe hg4 (fun e => by have := (HOA2.out.lt bx e.symm).1; have := HBL.out; have := HSZ5.out; omega)); clear p0 p1 p2 f1 pb hown4 hg4 q0 qb; obtain ⟨p0, p1, p2, pf⟩ := HB4.out; have f1 := pf 1; have pb := lt_of_cell p0; clear pf)
                 go_roundw
                 case measure => have := HIL.out; simp [intOf] <;> omega
                 case rel =>
                   have hne6 : ∀ j, va.ownBlock = some j → w5.heap.size ≤ j := fun j e => (HOA2.out.lt j e).1
                   have hbl := HBL.out
                   have hsz := HSZ5.out
                   have hws : w.heap.size ≤ bx := by have := HG2.out; have := HS2.out; have := HBXL.out; omega
                   have hov := (HOV2.out.kept HHA.out)
                   have hvl := HVL.out
                   have hk5 := HK5.out.size
                   refine ⟨i + 1, .slice xa (pre.length + 1) xc, HIL.out, by go_num, ?_, ?_, ?_, ?_, ?_⟩
                   · exact ((HKC2.out.trans HHA.out).grown HG4.out (fun r e => by have := hne6 r e; omega)).setCell (p := ⟨bx, 1, none⟩) (by show _ ≤ bx; omega) _
                   · exact HFI.out.step HHA.out HG4.out (fun r e => hne6 r e) _ _
                   · exact HB4.out.set1 _
                   · exact (hov.grownNe HG4.out (fun j e e2 => by have := hne6 j (by rw [← e2]); have := hvl j e; omega)).setNe HOB.out _
                   · have h4 := HO4.out
                     simp only [List.length_append, List.length_cons, List.length_nil, Nat.zero_add] at h4
                     rw [HF2.out]
                     exact h4.setBelow (by show bx < _; omega) _
               · have HF2 : Hid ((o.arcs.take (i + 1)).filter (fun x => !lgB want c' x.1.toNat x.2.toNat) = pre) := Lib.hid (by rw [HFS.out]; simp)
                 go_wp2
                 go_roundw
                 case measure => have := HIL.out; simp [intOf] <;> omega
                 case rel => exact ⟨i + 1, va, HIL.out, by go_num, HKC.out.trans HKI.out, HFI.out, HBC.out.kept HKI.out, HOV.out.kept HKI.out, by rw [HF2.out]; exact HOA.out.kept HKI.out⟩
         · obtain rfl : i = o.arcs.length := by omega
           have HXY : Hid ((⟨o.N, (o.arcs.take o.arcs.length).filter (fun x => !lgB want n x.1.toNat x.2.toNat), o.near⟩ : Prob) = P ∧ 0 = er) := Lib.hid (by rw [List.take_length]; exact HXX.out)
           clear HXX
           generalize (o.arcs.take o.arcs.length).filter (fun x => !lgB want n x.1.toNat x.2.toNat) = pre at *
           clear hilt hi hk hfr hbc hov hoa
           have HP9 := Lib.hid (HP5.out.fr HFR.out (by have := HS2.out; have := HBXL.out; omega))
           obtain ⟨p0, p1, p2, pf⟩ := HBC.out
           have pb := lt_of_cell p0
           obtain ⟨s0, s1, s2, sf⟩ := HP9.out
           have f0 := sf 0
           have f1 := sf 1
           have f2 := sf 2
           have sb := lt_of_cell s0
           clear pf sf
           have hov := HOV.out
           have hoa := HOA.out
           obtain ⟨ya, yc, rfl, -, -⟩ := hov.prs
           obtain ⟨xa, xc, rfl, -, -⟩ := hoa.prs
           have HV := Lib.hid hov
           have HA := Lib.hid hoa
           clear hov hoa
           have HB9 := Lib.hid (HP9.out.set o.N (.slice xa pre.length xc) (.slice ya o.near.length yc))
           go_wp2
           refine bodyPost_ret (results_cell_tmp rfl _ _ ⟨g2, 0, none⟩ rfl _ (load24 HB9.out.c0 HB9.out.c1 HB9.out.c2)) rfl ?_
           have hs0 := HK2.out.size
           have hs2 := HS2.out
           have hs5 : w2.heap.size ≤ w5.heap.size := by have := HSZ5.out; have := HBL.out; have := HBXL.out; omega
           rw [← HXY.out.1, ← HXY.out.2]
           refine ⟨xa, xc, ya, yc, rfl, ?_, ?_, ?_⟩
           · refine OwnG.base' (((HA.out.setBelow (a := ⟨g2, 0, none⟩) ?_ _).setBelow (a := ⟨g2, 1, none⟩) ?_ _).setBelow (a := ⟨g2, 2, none⟩) ?_ _) (Nat.le_trans hs0 hs5)
             all_goals (show g2 < _; omega)
           · refine OwnG.base' (((HV.out.setBelow (a := ⟨g2, 0, none⟩) ?_ _).setBelow (a := ⟨g2, 1, none⟩) ?_ _).setBelow (a := ⟨g2, 2, none⟩) ?_ _) hs0
             all_goals (show g2 < _; omega)
           · refine ((HKC.out.setCell (p := ⟨g2, 0, none⟩) ?_ _).setCell (p := ⟨g2, 1, none⟩) ?_ _).setCell (p := ⟨g2, 2, none⟩) ?_ _
             all_goals exact HS0.out
  · have HX : Hid ((⟨0, [], []⟩ : Prob) = P ∧ chk o = er) := Lib.hid (by rw [← HPP.out, ← HER.out]; unfold ReduceR errS; rw [if_neg hc, if_neg hc]; exact ⟨rfl, rfl⟩)
    have hb : (chk o != 0) = true := by simp [hc]
    clear hc
    have HP9 := Lib.hid (HP2.out.set 0 (.slice none 0 0) (.slice none 0 0))
    obtain ⟨p0, p1, p2, pf⟩ := HP2.out
    have f0 := pf 0
    have f1 := pf 1
    have f2 := pf 2
    have pb := lt_of_cell p0
    clear pf
    go_wp2
    refine bodyPost_ret (results_cell_tmp rfl _ _ ⟨g2, 0, none⟩ rfl _ (load24 HP9.out.c0 HP9.out.c1 HP9.out.c2)) rfl ?_
    rw [← HX.out.1, ← HX.out.2]
    refine ⟨none, 0, none, 0, rfl, OwnG.nil _ _ _ _ _, OwnG.nil _ _ _ _ _, ?_⟩
    exact ((HK2.out.setCell (p := ⟨g2, 0, none⟩) HS0.out _).setCell (p := ⟨g2, 1, none⟩) HS0.out _).setCell (p := ⟨g2, 2, none⟩) HS0.out _
end Go.Proofs.Yteljjkghjbofnaa
