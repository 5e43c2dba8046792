/- Close, Reduce. -/
import Derived.Test.YteljjkghjbofnaaTa
set_option maxRecDepth 100000
namespace Go.Proofs.Yteljjkghjbofnaa
open Go Go.Proofs Go.RowKit
attribute [local go_sem] Oper.semAt_some

set_option maxHeartbeats 800000 in
theorem closeFn_any (b cb : Nat) (W : Web) (x y : Nat) (w : World) (hc : w.cell? ⟨cb, 0, none⟩ = some (.pointer (some ⟨b, 0, none⟩))) (hw : WebAt w b W) (hn : W.n ≤ 24) (hx : x < W.n) (hy : y < W.n) :
    Calls Try.prog 118 #[.int .i64 x, .int .i64 y, .pointer (some ⟨cb, 0, none⟩)] w (Tells (.bool (closeW W x y)) w) := by
  have hre := hw.reach x (by omega)
  have hxi : (x : Int) < 24 := by omega
  go_enter Try.func118, Try.ntmps118
  go_wp2_with fail
  refine (has_any (W.reach x) y w (by omega)).mono ?_
  rintro e w1 ⟨rfl, rfl⟩
  go_wp2
  go_ret
  exact ⟨rfl, rfl⟩

theorem reduceW_no {W : Web} {x y c : Nat} (hc : c < W.n) (h1 : hasS (W.reach x) c = true) (h2 : hasS (W.reach c) y = true) : reduceW W x y = false := by
  unfold reduceW
  have : (List.range W.n).any (fun c => hasS (W.reach x) c && hasS (W.reach c) y) = true := List.any_eq_true.2 ⟨c, List.mem_range.2 hc, by rw [h1, h2]; rfl⟩
  rw [this]; simp
theorem reduceW_end {W : Web} {x y : Nat} (h : ∀ c, c < W.n → (hasS (W.reach x) c && hasS (W.reach c) y) = false) : reduceW W x y = hasS (W.to x) y := by
  unfold reduceW
  have : (List.range W.n).any (fun c => hasS (W.reach x) c && hasS (W.reach c) y) = false := by
    rw [List.any_eq_false]
    intro c hc
    rw [h c (List.mem_range.1 hc)]; simp
  rw [this]; simp

set_option maxHeartbeats 800000 in
theorem reduceFn_any (b cb : Nat) (W : Web) (x y : Nat) (w : World) (hc : w.cell? ⟨cb, 0, none⟩ = some (.pointer (some ⟨b, 0, none⟩))) (hw : WebAt w b W) (hn : W.n ≤ 24) (hx : x < W.n) (hy : y < W.n) :
    Calls Try.prog 119 #[.int .i64 x, .int .i64 y, .pointer (some ⟨cb, 0, none⟩)] w (Tells (.bool (reduceW W x y)) w) := by
  have hn0 := hw.n
  have hre := hw.reach x (by omega)
  have hto := hw.to x (by omega)
  have hxi : (x : Int) < 24 := by omega
  have HW := Lib.hid hw
  obtain ⟨r, hr⟩ : ∃ r, reduceW W x y = r := ⟨_, rfl⟩
  rw [hr]
  have HR := Lib.hid hr
  clear hr
  go_enter Try.func119, Try.ntmps119
  go_wp2
  go_loop [11] (fun i => ∃ k : Nat, k ≤ W.n ∧ i = .int .i64 k ∧ ∀ c, c < k → (hasS (W.reach x) c && hasS (W.reach c) y) = false) (fun i => W.n - (intOf i).toNat)
  case atStart => exact ⟨0, Nat.zero_le _, rfl, fun c h => by omega⟩
  case round =>
    obtain ⟨k, hk, rfl, hn1⟩ := hrel
    have HN := Lib.hid hn1
    clear hn1
    by_cases hlt : k < W.n
    · have hrk := HW.out.reach k (by omega)
      have hki : (k : Int) < 24 := by omega
      have HL := Lib.hid hlt
      have HS : Hid ((hasS (W.reach x) k && hasS (W.reach k) y) = false → ∀ c, c < k + 1 → (hasS (W.reach x) c && hasS (W.reach c) y) = false) := Lib.hid fun h c hck => by
        rcases Nat.lt_or_eq_of_le (Nat.lt_succ_iff.1 hck) with h2 | rfl
        · exact HN.out c h2
        · exact h
      go_wp2_with fail
      refine (has_any (W.reach x) k w (by omega)).mono ?_
      rintro e w1 ⟨rfl, rfl⟩
      cases h1 : hasS (W.reach x) k
      · have HS2 := Lib.hid (HS.out (by rw [h1]; rfl))
        clear h1
        go_wp2
        go_round
        case measure => simp [intOf] <;> omega
        case rel => exact ⟨k + 1, by omega, by go_num, HS2.out⟩
      · have H1 := Lib.hid h1
        clear h1
        go_wp2_with fail
        refine (has_any (W.reach k) y w (by omega)).mono ?_
        rintro e w1 ⟨rfl, rfl⟩
        cases h2 : hasS (W.reach k) y
        · have HS2 := Lib.hid (HS.out (by rw [h2, Bool.and_false]))
          clear h2
          go_wp2
          go_round
          case measure => simp [intOf] <;> omega
          case rel => exact ⟨k + 1, by omega, by go_num, HS2.out⟩
        · have HX : Hid (false = r) := Lib.hid (by rw [← HR.out]; exact (reduceW_no HL.out H1.out h2).symm)
          clear h2
          go_wp2
          go_ret
          exact ⟨ret_bool HX.out, rfl⟩
    · have HX : Hid (hasS (W.to x) y = r) := Lib.hid (by rw [← HR.out]; exact (reduceW_end (fun c hc => HN.out c (by omega))).symm)
      go_wp2_with fail
      refine (has_any (W.to x) y w (by omega)).mono ?_
      rintro e w1 ⟨rfl, rfl⟩
      go_wp2
      go_ret
      exact ⟨ret_bool HX.out, rfl⟩

def CloseR (o : Prob) : Prob × Int := if chk o = 0 then (closeP o, 0) else (⟨0, [], []⟩, chk o)
def ReduceR (o : Prob) : Prob × Int := if errS o = 0 then (reduceP o, 0) else (⟨0, [], []⟩, errS o)
def ProbPost (P : Prob) (err : Int) (w : World) (e : Ending) (w' : World) : Prop :=
  ∃ ao ca bo cb, e = .returned (.tuple #[probV P ao ca bo cb, .int .i64 err]) ∧ OwnG w' w.heap.size 83 2 pairC (.slice ao P.arcs.length ca) P.arcs ∧ OwnG w' w.heap.size 83 2 pairC (.slice bo P.near.length cb) P.near ∧ Kept w w'

set_option maxHeartbeats 1600000 in
theorem Close_any (o : Prob) (ao bo : Option Addr) (ca cb : Nat) (w : World) (ho : IsProb w o ao bo) (hlen : o.near.length < 1099511627776) :
    Calls Try.prog 55 #[probV o ao ca bo cb] w (ProbPost (CloseR o).1 (CloseR o).2 w) := by
  have HO := Lib.hid ho
  have HLEN := Lib.hid hlen
  clear ho hlen
  by_cases h : chk o = 0
  · have hr : CloseR o = (closeP o, 0) := by unfold CloseR; rw [if_pos h]
    rw [hr]
    have HC := Lib.hid h
    have HN := Lib.hid (webOf_n h)
    clear hr h
    go_enter Try.func55, Try.ntmps55
    go_wp2_with fail
    obtain ⟨w0, e0, hk0, hb0, e5⟩ := alloc_prob w o.N o.arcs o.near ao ca bo cb
    rw [e0]
    clear e0
    have HB2 := Lib.hid (PBox.new w0 0 (.slice none 0 0) (.slice none 0 0))
    have HS0 : Hid (w.heap.size ≤ w0.heap.size) := Lib.hid hk0.size
    have HK1 := Lib.hid (hk0.alloc (.cells #[.int .i64 0, .slice none 0 0, .slice none 0 0] 24))
    have hb1 := hb0.kept ((Kept.refl _).alloc (.cells #[.int .i64 0, .slice none 0 0, .slice none 0 0] 24))
    have HS1 : Hid (w0.heap.size < (w0.alloc (.cells #[.int .i64 0, .slice none 0 0, .slice none 0 0] 24)).heap.size) := Lib.hid (by simp)
    clear hk0 hb0
    generalize w0.alloc (.cells #[.int .i64 0, .slice none 0 0, .slice none 0 0] 24) = w1 at *
    obtain ⟨g2, hg2⟩ : ∃ g2, w.heap.size + 1 = g2 := ⟨_, rfl⟩
    rw [← e5, hg2] at HB2 HS0 HS1
    rw [hg2]
    clear hg2 e5
    have HB1 := Lib.hid hb1
    obtain ⟨q0, q1, q2⟩ := hb1
    have qb := lt_of_cell q0
    go_wp2_with fail
    clear q0 q1 q2 qb
    refine (open_ok o ao bo ca cb w1 (HO.out.kept HK1.out) HC.out).mono ?_
    rintro e w2 ⟨b, rfl, hw2, hk2⟩
    have HW2 := Lib.hid hw2
    have HK2 := Lib.hid (HK1.out.trans hk2)
    have HBX := Lib.hid (HB1.out.kept hk2)
    have HP2 := Lib.hid (HB2.out.kept hk2)
    have HS2 : Hid (g2 < w2.heap.size) := Lib.hid (Nat.lt_of_lt_of_le HS1.out hk2.size)
    clear hw2 hk2 HB1 HB2 HS1
    have hKA : Kept w2 (w2.alloc (.cells #[.pointer (some ⟨b, 0, none⟩)] 88)) := (Kept.refl _).alloc _
    have HKA := Lib.hid hKA
    have HCC : Hid ((w2.alloc (.cells #[.pointer (some ⟨b, 0, none⟩)] 88)).cell? ⟨w2.heap.size, 0, none⟩ = some (.pointer (some ⟨b, 0, none⟩))) := Lib.hid (by simp [go_sem])
    clear hKA
    obtain ⟨q0, q1, q2⟩ := HBX.out
    have qb := lt_of_cell q0
    go_wp2_with fail
    clear q0 q1 q2 qb
    have hF := kept_any b 118 #[.pointer (some ⟨w2.heap.size, 0, none⟩)] (webOf o) (closeW (webOf o)) o.near bo cb _ (HW2.out.kept HKA.out) HN.out ((HO.out.kept (HK2.out.trans HKA.out)).near) HLEN.out
      (fun x y X hk hx hy => closeFn_any b w2.heap.size (webOf o) x y X (hk.cell HCC.out) ((HW2.out.kept HKA.out).kept hk) HN.out hx hy) (fun _ _ => rfl)
    refine hF.mono ?_
    clear hF
    rintro e w3 ⟨va, vb, rfl, hva, hvb, hk3⟩
    obtain ⟨xa, xc, rfl, -, -⟩ := hva.prs
    obtain ⟨ya, yc, rfl, -, -⟩ := hvb.prs
    have HVA := Lib.hid hva
    have HVB := Lib.hid hvb
    have HK3 := Lib.hid ((HK2.out.trans HKA.out).trans hk3)
    have HP3 := Lib.hid ((HP2.out.kept HKA.out).kept hk3)
    have HNN : Hid ((((webOf o).n : Nat) : Int) = o.N) := Lib.hid (webOf_nI HC.out)
    obtain ⟨p0, p1, p2, pf⟩ := HP3.out
    have f0 := pf 0
    have f1 := pf 1
    have f2 := pf 2
    have pb := lt_of_cell p0
    clear hva hvb hk3 pf
    have HP9 := Lib.hid (HP3.out.set o.N (.slice xa (keptK (closeW (webOf o)) (webOf o).n (webOf o).n).length xc) (.slice ya o.near.length yc))
    rw [HNN.out]
    go_wp2
    refine bodyPost_ret (results_cell_tmp rfl _ _ ⟨g2, 0, none⟩ rfl _ (load24 HP9.out.c0 HP9.out.c1 HP9.out.c2)) rfl ?_
    have hs2 := HS2.out
    have hs3 : g2 < (w2.alloc (.cells #[.pointer (some ⟨b, 0, none⟩)] 88)).heap.size := Nat.lt_of_lt_of_le hs2 HKA.out.size
    have hs4 : w.heap.size ≤ (w2.alloc (.cells #[.pointer (some ⟨b, 0, none⟩)] 88)).heap.size := Nat.le_trans HK2.out.size HKA.out.size
    refine ⟨xa, xc, ya, yc, rfl, ?_, ?_, ?_⟩
    · refine OwnG.base' (((HVA.out.setBelow (a := ⟨g2, 0, none⟩) ?_ _).setBelow (a := ⟨g2, 1, none⟩) ?_ _).setBelow (a := ⟨g2, 2, none⟩) ?_ _) hs4
      all_goals exact hs3
    · refine OwnG.base' (((HVB.out.setBelow (a := ⟨g2, 0, none⟩) ?_ _).setBelow (a := ⟨g2, 1, none⟩) ?_ _).setBelow (a := ⟨g2, 2, none⟩) ?_ _) hs4
      all_goals exact hs3
    · exact ((HK3.out.setCell (p := ⟨g2, 0, none⟩) HS0.out _).setCell (p := ⟨g2, 1, none⟩) HS0.out _).setCell (p := ⟨g2, 2, none⟩) HS0.out _
  · have hr : CloseR o = (⟨0, [], []⟩, chk o) := by unfold CloseR; rw [if_neg h]
    rw [hr]
    have H := Lib.hid h
    have hb : (chk o != 0) = true := by simp [h]
    clear hr h
    go_enter Try.func55, Try.ntmps55
    go_wp2_with fail
    obtain ⟨w0, e0, hk0, hb0, e5⟩ := alloc_prob w o.N o.arcs o.near ao ca bo cb
    rw [e0]
    clear e0
    have HB2 := Lib.hid (PBox.new w0 0 (.slice none 0 0) (.slice none 0 0))
    have HS0 : Hid (w.heap.size ≤ w0.heap.size) := Lib.hid hk0.size
    have HK1 := Lib.hid (hk0.alloc (.cells #[.int .i64 0, .slice none 0 0, .slice none 0 0] 24))
    have hb1 := hb0.kept ((Kept.refl _).alloc (.cells #[.int .i64 0, .slice none 0 0, .slice none 0 0] 24))
    clear hk0 hb0
    generalize w0.alloc (.cells #[.int .i64 0, .slice none 0 0, .slice none 0 0] 24) = w1 at *
    obtain ⟨g2, hg2⟩ : ∃ g2, w.heap.size + 1 = g2 := ⟨_, rfl⟩
    rw [← e5, hg2] at HB2 HS0
    rw [hg2]
    clear hg2 e5
    obtain ⟨q0, q1, q2⟩ := hb1
    have qb := lt_of_cell q0
    go_wp2_with fail
    clear q0 q1 q2 qb
    refine (open_bad o ao bo ca cb w1 (HO.out.kept HK1.out) H.out).mono ?_
    rintro e w2 ⟨rfl, hk2⟩
    have HK2 := Lib.hid (HK1.out.trans hk2)
    have HP2 := Lib.hid (HB2.out.kept hk2)
    have HP9 := Lib.hid ((HP2.out.kept ((Kept.refl _).alloc (.cells #[.pointer none] 88))).set 0 (.slice none 0 0) (.slice none 0 0))
    obtain ⟨p0, p1, p2, pf⟩ := HP2.out.kept ((Kept.refl _).alloc (.cells #[.pointer none] 88))
    have f0 := pf 0
    have f1 := pf 1
    have f2 := pf 2
    have pb := lt_of_cell p0
    clear hk2 pf
    go_wp2
    refine bodyPost_ret (results_cell_tmp rfl _ _ ⟨g2, 0, none⟩ rfl _ (load24 HP9.out.c0 HP9.out.c1 HP9.out.c2)) rfl ?_
    refine ⟨none, 0, none, 0, rfl, OwnG.nil _ _ _ _ _, OwnG.nil _ _ _ _ _, ?_⟩
    exact (((HK2.out.alloc _).setCell (p := ⟨g2, 0, none⟩) HS0.out _).setCell (p := ⟨g2, 1, none⟩) HS0.out _).setCell (p := ⟨g2, 2, none⟩) HS0.out _

set_option maxHeartbeats 1600000 in
theorem Reduce_any (o : Prob) (ao bo : Option Addr) (ca cb : Nat) (w : World) (ho : IsProb w o ao bo) (hlen : o.near.length < 1099511627776) :
    Calls Try.prog 57 #[probV o ao ca bo cb] w (ProbPost (ReduceR o).1 (ReduceR o).2 w) := by
  have HO := Lib.hid ho
  have HLEN := Lib.hid hlen
  clear ho hlen
  by_cases h : errS o = 0
  · have hr : ReduceR o = (reduceP o, 0) := by unfold ReduceR; rw [if_pos h]
    rw [hr]
    have HC := Lib.hid (errS_ok h).1
    have HCB := Lib.hid (errS_ok h).2
    have HN := Lib.hid (webOf_n (errS_ok h).1)
    clear hr h
    go_enter Try.func57, Try.ntmps57
    go_wp2_with fail
    obtain ⟨w0, e0, hk0, hb0, e5⟩ := alloc_prob w o.N o.arcs o.near ao ca bo cb
    rw [e0]
    clear e0
    have HB2 := Lib.hid (PBox.new w0 0 (.slice none 0 0) (.slice none 0 0))
    have HS0 : Hid (w.heap.size ≤ w0.heap.size) := Lib.hid hk0.size
    have HK1 := Lib.hid (hk0.alloc (.cells #[.int .i64 0, .slice none 0 0, .slice none 0 0] 24))
    have hb1 := hb0.kept ((Kept.refl _).alloc (.cells #[.int .i64 0, .slice none 0 0, .slice none 0 0] 24))
    have HS1 : Hid (w0.heap.size < (w0.alloc (.cells #[.int .i64 0, .slice none 0 0, .slice none 0 0] 24)).heap.size) := Lib.hid (by simp)
    clear hk0 hb0
    generalize w0.alloc (.cells #[.int .i64 0, .slice none 0 0, .slice none 0 0] 24) = w1 at *
    obtain ⟨g2, hg2⟩ : ∃ g2, w.heap.size + 1 = g2 := ⟨_, rfl⟩
    rw [← e5, hg2] at HB2 HS0 HS1
    rw [hg2]
    clear hg2 e5
    have HB1 := Lib.hid hb1
    obtain ⟨q0, q1, q2⟩ := hb1
    have qb := lt_of_cell q0
    go_wp2_with fail
    clear q0 q1 q2 qb
    refine (straight_ok o ao bo ca cb w1 (HO.out.kept HK1.out) HC.out HCB.out).mono ?_
    rintro e w2 ⟨b, rfl, hw2, hk2⟩
    have HW2 := Lib.hid hw2
    have HK2 := Lib.hid (HK1.out.trans hk2)
    have HBX := Lib.hid (HB1.out.kept hk2)
    have HP2 := Lib.hid (HB2.out.kept hk2)
    have HS2 : Hid (g2 < w2.heap.size) := Lib.hid (Nat.lt_of_lt_of_le HS1.out hk2.size)
    clear hw2 hk2 HB1 HB2 HS1
    have hKA : Kept w2 (w2.alloc (.cells #[.pointer (some ⟨b, 0, none⟩)] 88)) := (Kept.refl _).alloc _
    have HKA := Lib.hid hKA
    have HCC : Hid ((w2.alloc (.cells #[.pointer (some ⟨b, 0, none⟩)] 88)).cell? ⟨w2.heap.size, 0, none⟩ = some (.pointer (some ⟨b, 0, none⟩))) := Lib.hid (by simp [go_sem])
    clear hKA
    obtain ⟨q0, q1, q2⟩ := HBX.out
    have qb := lt_of_cell q0
    go_wp2_with fail
    clear q0 q1 q2 qb
    have hF := kept_any b 119 #[.pointer (some ⟨w2.heap.size, 0, none⟩)] (webOf o) (reduceW (webOf o)) o.near bo cb _ (HW2.out.kept HKA.out) HN.out ((HO.out.kept (HK2.out.trans HKA.out)).near) HLEN.out
      (fun x y X hk hx hy => reduceFn_any b w2.heap.size (webOf o) x y X (hk.cell HCC.out) ((HW2.out.kept HKA.out).kept hk) HN.out hx hy) (fun _ _ => rfl)
    refine hF.mono ?_
    clear hF
    rintro e w3 ⟨va, vb, rfl, hva, hvb, hk3⟩
    obtain ⟨xa, xc, rfl, -, -⟩ := hva.prs
    obtain ⟨ya, yc, rfl, -, -⟩ := hvb.prs
    have HVA := Lib.hid hva
    have HVB := Lib.hid hvb
    have HK3 := Lib.hid ((HK2.out.trans HKA.out).trans hk3)
    have HP3 := Lib.hid ((HP2.out.kept HKA.out).kept hk3)
    have HNN : Hid ((((webOf o).n : Nat) : Int) = o.N) := Lib.hid (webOf_nI HC.out)
    obtain ⟨p0, p1, p2, pf⟩ := HP3.out
    have f0 := pf 0
    have f1 := pf 1
    have f2 := pf 2
    have pb := lt_of_cell p0
    clear hva hvb hk3 pf
    have HP9 := Lib.hid (HP3.out.set o.N (.slice xa (keptK (reduceW (webOf o)) (webOf o).n (webOf o).n).length xc) (.slice ya o.near.length yc))
    rw [HNN.out]
    go_wp2
    refine bodyPost_ret (results_cell_tmp rfl _ _ ⟨g2, 0, none⟩ rfl _ (load24 HP9.out.c0 HP9.out.c1 HP9.out.c2)) rfl ?_
    have hs2 := HS2.out
    have hs3 : g2 < (w2.alloc (.cells #[.pointer (some ⟨b, 0, none⟩)] 88)).heap.size := Nat.lt_of_lt_of_le hs2 HKA.out.size
    have hs4 : w.heap.size ≤ (w2.alloc (.cells #[.pointer (some ⟨b, 0, none⟩)] 88)).heap.size := Nat.le_trans HK2.out.size HKA.out.size
    refine ⟨xa, xc, ya, yc, rfl, ?_, ?_, ?_⟩
    · refine OwnG.base' (((HVA.out.setBelow (a := ⟨g2, 0, none⟩) ?_ _).setBelow (a := ⟨g2, 1, none⟩) ?_ _).setBelow (a := ⟨g2, 2, none⟩) ?_ _) hs4
      all_goals exact hs3
    · refine OwnG.base' (((HVB.out.setBelow (a := ⟨g2, 0, none⟩) ?_ _).setBelow (a := ⟨g2, 1, none⟩) ?_ _).setBelow (a := ⟨g2, 2, none⟩) ?_ _) hs4
      all_goals exact hs3
    · exact ((HK3.out.setCell (p := ⟨g2, 0, none⟩) HS0.out _).setCell (p := ⟨g2, 1, none⟩) HS0.out _).setCell (p := ⟨g2, 2, none⟩) HS0.out _
  · have hr : ReduceR o = (⟨0, [], []⟩, errS o) := by unfold ReduceR; rw [if_neg h]
    rw [hr]
    have H := Lib.hid h
    have hb : (errS o != 0) = true := by simp [h]
    clear hr h
    go_enter Try.func57, Try.ntmps57
    go_wp2_with fail
    obtain ⟨w0, e0, hk0, hb0, e5⟩ := alloc_prob w o.N o.arcs o.near ao ca bo cb
    rw [e0]
    clear e0
    have HB2 := Lib.hid (PBox.new w0 0 (.slice none 0 0) (.slice none 0 0))
    have HS0 : Hid (w.heap.size ≤ w0.heap.size) := Lib.hid hk0.size
    have HK1 := Lib.hid (hk0.alloc (.cells #[.int .i64 0, .slice none 0 0, .slice none 0 0] 24))
    have hb1 := hb0.kept ((Kept.refl _).alloc (.cells #[.int .i64 0, .slice none 0 0, .slice none 0 0] 24))
    clear hk0 hb0
    generalize w0.alloc (.cells #[.int .i64 0, .slice none 0 0, .slice none 0 0] 24) = w1 at *
    obtain ⟨g2, hg2⟩ : ∃ g2, w.heap.size + 1 = g2 := ⟨_, rfl⟩
    rw [← e5, hg2] at HB2 HS0
    rw [hg2]
    clear hg2 e5
    obtain ⟨q0, q1, q2⟩ := hb1
    have qb := lt_of_cell q0
    go_wp2_with fail
    clear q0 q1 q2 qb
    refine (straight_bad o ao bo ca cb w1 (HO.out.kept HK1.out) H.out).mono ?_
    rintro e w2 ⟨rfl, hk2⟩
    have HK2 := Lib.hid (HK1.out.trans hk2)
    have HP2 := Lib.hid (HB2.out.kept hk2)
    have HP9 := Lib.hid ((HP2.out.kept ((Kept.refl _).alloc (.cells #[.pointer none] 88))).set 0 (.slice none 0 0) (.slice none 0 0))
    obtain ⟨p0, p1, p2, pf⟩ := HP2.out.kept ((Kept.refl _).alloc (.cells #[.pointer none] 88))
    have f0 := pf 0
    have f1 := pf 1
    have f2 := pf 2
    have pb := lt_of_cell p0
    clear hk2 pf
    go_wp2
    refine bodyPost_ret (results_cell_tmp rfl _ _ ⟨g2, 0, none⟩ rfl _ (load24 HP9.out.c0 HP9.out.c1 HP9.out.c2)) rfl ?_
    refine ⟨none, 0, none, 0, rfl, OwnG.nil _ _ _ _ _, OwnG.nil _ _ _ _ _, ?_⟩
    exact (((HK2.out.alloc _).setCell (p := ⟨g2, 0, none⟩) HS0.out _).setCell (p := ⟨g2, 1, none⟩) HS0.out _).setCell (p := ⟨g2, 2, none⟩) HS0.out _
end Go.Proofs.Yteljjkghjbofnaa
