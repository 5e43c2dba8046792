/- OrderPlaces. -/
import Derived.Test.YteljjkghjbofnaaNb
import Derived.Test.YteljjkghjbofnaaKg
set_option maxRecDepth 100000
namespace Go.Proofs.Yteljjkghjbofnaa
open Go Go.Proofs Go.RowKit
attribute [local go_sem] Oper.semAt_some

/-- A problem and a pair in variables. -/
structure Pl (w X : World) (g0 g1 : Nat) (o : Prob) (ao bo : Option Addr) (ca cb : Nat) (x1 x2 : Int) : Prop where
  po : IsProb X o ao bo
  b : ProbBox X g0 o ao ca bo cb
  c0 : X.cell? ⟨g1, 0, none⟩ = some (.int .i64 x1)
  c1 : X.cell? ⟨g1, 1, none⟩ = some (.int .i64 x2)
  k : Kept w X
theorem Pl.kept {w X Y : World} {g0 g1 : Nat} {o : Prob} {ao bo : Option Addr} {ca cb : Nat} {x1 x2 : Int} (h : Pl w X g0 g1 o ao bo ca cb x1 x2) (hk : Kept X Y) : Pl w Y g0 g1 o ao bo ca cb x1 x2 :=
  ⟨h.po.kept hk, h.b.kept hk, hk.cell h.c0, hk.cell h.c1, h.k.trans hk⟩
theorem FirstR_err' (o : Prob) : (FirstR o).2 = errS o := by
  unfold FirstR
  by_cases h : errS o = 0
  · rw [if_pos h, h]
  · rw [if_neg h]

theorem at_range (k : Int) {n : Int} (h0 : 0 < n) (h1 : n ≤ 479001600) : 0 ≤ (wrap64 (k.tmod n + n)).tmod n ∧ (wrap64 (k.tmod n + n)).tmod n < n := by
  have h2 : (k.tmod n).natAbs < n.natAbs := by
    rw [Int.natAbs_tmod]
    exact Nat.mod_lt _ (by omega)
  rw [IntWalk.wrap64_in _ (by omega), Int.tmod_eq_emod_of_nonneg (by omega)]
  exact ⟨Int.emod_nonneg _ (by omega), Int.emod_lt_of_pos _ h0⟩
theorem first_len {W : Web} (hn : W.n ≤ 24) (hg : Goes W) : (firstOf W).length ≤ 24 := by
  have := (firstL_facts hn hg W.n (Nat.le_refl _)).1
  unfold firstOf
  omega

set_option maxHeartbeats 1000000 in
theorem OrderPlaces_bad (o : Prob) (ao bo : Option Addr) (ca cb : Nat) (k x1 x2 : Int) (w : World) (c : Int) (hc : c ≠ 0) (hF : ∀ X, Kept w X → Calls Try.prog 49 #[probV o ao ca bo cb] X (Gives (.tuple #[.int .i64 0, .int .i64 c]) X))
    (hG : ∀ X, Kept w X → Calls Try.prog 53 #[probV o ao ca bo cb, .int .i64 k] X (ListErr [] c X)) :
    Calls Try.prog 21 #[probV o ao ca bo cb, .int .i64 k, .agg #[.int .i64 x1, .int .i64 x2]] w (Gives (.bool true) w) := by
  have HF := Lib.hid hF
  have HG := Lib.hid hG
  have e1 : (c != 0) = true := by simp [hc]
  have e2 : (c == c) = true := by simp
  clear hF hG hc
  go_enter Try.func21, Try.ntmps21
  go_wp2_with fail
  obtain ⟨w0, e0, hk0, hb0, e5⟩ := alloc_prob w o.N o.arcs o.near ao ca bo cb
  rw [e0]
  clear e0
  have hk1 : Kept w0 (w0.alloc (.cells #[.int .i64 x1, .int .i64 x2] 83)) := (Kept.refl _).alloc _
  generalize w0.alloc (.cells #[.int .i64 x1, .int .i64 x2] 83) = w1 at *
  have HK1 := Lib.hid (hk0.trans hk1)
  have HB1 := Lib.hid (hb0.kept hk1)
  clear hk0 hk1 hb0 e5
  obtain ⟨q0, q1, q2⟩ := HB1.out
  have qb := lt_of_cell q0
  go_wp2_with fail
  clear q0 q1 q2 qb
  refine (HF.out w1 HK1.out).mono ?_
  rintro e w2 ⟨rfl, hk⟩
  have HK2 := Lib.hid (HK1.out.trans hk)
  have HB2 := Lib.hid (HB1.out.kept hk)
  clear hk
  obtain ⟨q0, q1, q2⟩ := HB2.out
  have qb := lt_of_cell q0
  go_wp2_with fail
  clear q0 q1 q2 qb
  refine (HG.out w2 HK2.out).mono ?_
  rintro e w3 ⟨v, rfl, hn, hk⟩
  obtain ⟨lo, lc, rfl, -⟩ := hn
  simp only [List.length_nil]
  have HK3 := Lib.hid (HK2.out.trans hk)
  have HB3 := Lib.hid (HB2.out.kept hk)
  clear hk
  go_wp2_with fail
  refine (alive_any w3).mono ?_
  rintro e w4 ⟨rfl, hk⟩
  have HK4 := Lib.hid (HK3.out.trans hk)
  have HB4 := Lib.hid (HB3.out.kept hk)
  clear hk
  obtain ⟨q0, q1, q2⟩ := HB4.out
  have qb := lt_of_cell q0
  go_wp2_with fail
  clear q0 q1 q2 qb
  refine (slim_any o ao bo ca cb w4).mono ?_
  rintro e w5 ⟨rfl, hk⟩
  have HK5 := Lib.hid (HK4.out.trans hk)
  clear hk
  cases hs : slimB o
  · clear hs
    go_wp2
    go_ret
    exact ⟨rfl, HK5.out⟩
  · clear hs
    go_wp2
    go_ret
    exact ⟨rfl, HK5.out⟩

set_option maxHeartbeats 4000000 in
theorem OrderPlaces_main (o : Prob) (ao bo : Option Addr) (ca cb : Nat) (k x1 x2 : Int) (w : World) (ho : IsProb w o ao bo) (hna : ao = none → ca = 0) (hnb : bo = none → cb = 0) (he : errC o = 0) :
    Calls Try.prog 21 #[probV o ao ca bo cb, .int .i64 k, .agg #[.int .i64 x1, .int .i64 x2]] w (Gives (.bool true) w) := by
  have HO := Lib.hid ho
  have HNA := Lib.hid hna
  have HNB := Lib.hid hnb
  have HE := Lib.hid he
  have HC := Lib.hid (errC_ok he).1
  have H12 := Lib.hid (errC_ok he).2
  have HS := Lib.hid (chk_slim HC.out)
  have HCR : Hid (CountR o = (cnt (webOf o) 0#32, 0)) := Lib.hid (by unfold CountR; rw [if_pos HE.out])
  have HPJ : Hid ((JoinR o ⟨o.N, [(x1, x2)], []⟩).2 = 0 → errC (JoinR o ⟨o.N, [(x1, x2)], []⟩).1 = 0 ∧ cnt (webOf (JoinR o ⟨o.N, [(x1, x2)], []⟩).1) 0#32 ≤ cnt (webOf o) 0#32) := Lib.hid fun h => places_join HE.out h
  have HJP : Hid ((JoinR o ⟨o.N, [(x1, x2)], []⟩).2 = 0 → ∀ (X : World) (base : Nat) (xa ya : Option Addr) (xc yc : Nat), OwnG X base 83 2 pairC (.slice xa (JoinR o ⟨o.N, [(x1, x2)], []⟩).1.arcs.length xc) (JoinR o ⟨o.N, [(x1, x2)], []⟩).1.arcs → OwnG X base 83 2 pairC (.slice ya (JoinR o ⟨o.N, [(x1, x2)], []⟩).1.near.length yc) (JoinR o ⟨o.N, [(x1, x2)], []⟩).1.near → IsProb X (JoinR o ⟨o.N, [(x1, x2)], []⟩).1 xa ya) := Lib.hid fun h X base xa ya xc yc h1 h2 => join_prob h h1 h2
  have HCC := Lib.hid (cnt_circ HC.out H12.out)
  have HSM := Lib.hid (cnt_small H12.out (0#32))
  have HNR : Hid (∀ j, 0 ≤ j → j < cnt (webOf o) 0#32 → orderedB (webOf o) (nthOf (webOf o) j) = true ∧ rankAt (webOf o) (nthOf (webOf o) j) (nthOf (webOf o) j).length = j ∧ (nthOf (webOf o) j).length = (webOf o).n) := Lib.hid fun j h0 h1 => nth_rank H12.out h0 h1
  clear ho hna hnb he
  go_enter Try.func21, Try.ntmps21
  go_wp2_with fail
  obtain ⟨w0, e0, hk0, hb0, e5⟩ := alloc_prob w o.N o.arcs o.near ao ca bo cb
  rw [e0]
  clear e0
  have hk1 : Kept w0 (w0.alloc (.cells #[.int .i64 x1, .int .i64 x2] 83)) := (Kept.refl _).alloc _
  have hc0 : (w0.alloc (.cells #[.int .i64 x1, .int .i64 x2] 83)).cell? ⟨w0.heap.size, 0, none⟩ = some (.int .i64 x1) := by simp [go_sem]
  have hc1 : (w0.alloc (.cells #[.int .i64 x1, .int .i64 x2] 83)).cell? ⟨w0.heap.size, 1, none⟩ = some (.int .i64 x2) := by simp [go_sem]
  generalize w0.alloc (.cells #[.int .i64 x1, .int .i64 x2] 83) = w1 at *
  obtain ⟨g0, hg0⟩ : ∃ g0, w.heap.size = g0 := ⟨_, rfl⟩
  obtain ⟨g1, hg1⟩ : ∃ g1, w0.heap.size = g1 := ⟨_, rfl⟩
  rw [hg0] at hb0
  rw [hg1] at hc0 hc1
  try rw [e5]
  rw [hg1, hg0]
  have P1 : Hid (Pl w w1 g0 g1 o ao bo ca cb x1 x2) := Lib.hid ⟨HO.out.kept (hk0.trans hk1), hb0.kept hk1, hc0, hc1, hk0.trans hk1⟩
  clear hk0 hk1 hb0 e5 hc0 hc1 hg0 hg1 HO
  obtain ⟨q0, q1, q2⟩ := P1.out.b
  have qb := lt_of_cell q0
  go_wp2_with fail
  clear q0 q1 q2 qb
  have hF := Count_any o ao bo ca cb w1 P1.out.po
  rw [HCR.out] at hF
  simp only [] at hF
  refine hF.mono ?_
  clear hF HCR
  rintro e w2 ⟨rfl, hk⟩
  have P2 := Lib.hid (P1.out.kept hk)
  clear hk P1
  obtain ⟨q0, q1, q2⟩ := P2.out.b
  have qb := lt_of_cell q0
  go_wp2_with fail
  clear q0 q1 q2 qb
  have hF := slim_any o ao bo ca cb w2
  rw [HS.out] at hF
  refine hF.mono ?_
  clear hF
  rintro e w3 ⟨rfl, hk⟩
  have P3 := Lib.hid (P2.out.kept hk)
  clear hk P2
  obtain ⟨q0, q1, q2⟩ := P3.out.b
  have qb := lt_of_cell q0
  go_wp2_with fail
  clear q0 q1 q2 qb
  have hF := First_any o ao bo ca cb w3 P3.out.po goes_webOf
  obtain ⟨W, hW⟩ : ∃ W, webOf o = W := ⟨_, rfl⟩
  cases hcb : circB (webOf o)
  case true =>
    have hn0 := HCC.out.2 hcb
    have hfe : FirstR o = ([], 50) := by
      have : errS o = 50 := by unfold errS; rw [if_pos HC.out, hcb]; rfl
      unfold FirstR
      rw [this]
      rfl
    rw [hfe] at hF
    rw [hn0]
    have HN0 := Lib.hid hn0
    refine hF.mono ?_
    clear hF hn0 hfe hcb hW
    rintro e w4 ⟨v, rfl, hn, hk⟩
    obtain ⟨lo, lc, rfl, -⟩ := hn
    have P4 := Lib.hid (P3.out.kept hk)
    clear hk P3 HNR
    obtain ⟨q0, q1, q2⟩ := P4.out.b
    have qb := lt_of_cell q0
    have r0 := P4.out.c0
    have r1 := P4.out.c1
    have rb := lt_of_cell r0
    go_wp2_with fail
    clear q0 q1 q2 qb r0 r1 rb
    obtain ⟨gx, hgx⟩ : ∃ gx, w4.heap.size = gx := ⟨_, rfl⟩
    have hkx : Kept w4 (w4.alloc (.cells #[.int .i64 x1, .int .i64 x2] 83)) := (Kept.refl _).alloc _
    have hx0 : (w4.alloc (.cells #[.int .i64 x1, .int .i64 x2] 83)).cell? ⟨w4.heap.size, 0, none⟩ = some (.int .i64 x1) := by simp [go_sem]
    have hx1 : (w4.alloc (.cells #[.int .i64 x1, .int .i64 x2] 83)).cell? ⟨w4.heap.size, 1, none⟩ = some (.int .i64 x2) := by simp [go_sem]
    generalize w4.alloc (.cells #[.int .i64 x1, .int .i64 x2] 83) = wx at *
    rw [hgx] at hx0 hx1 ⊢
    have PX := Lib.hid (P4.out.kept hkx)
    have hpx : IsProb wx ⟨o.N, [(x1, x2)], []⟩ (some ⟨gx, 0, none⟩) none := ⟨fun i hi => by
      have : i = 0 := by simp at hi; omega
      subst this
      exact ⟨gx, 0, rfl, hx0, hx1⟩, Pairs.nil _ _, by simp, by simp⟩
    have hF : Calls Try.prog 70 #[probV o ao ca bo cb, .agg #[.int .i64 o.N, .slice (some ⟨gx, 0, none⟩) 1 1, .slice none 0 0]] wx (ProbPost (JoinR o ⟨o.N, [(x1, x2)], []⟩).1 (JoinR o ⟨o.N, [(x1, x2)], []⟩).2 wx) := Join_any o ⟨o.N, [(x1, x2)], []⟩ ao bo (some ⟨gx, 0, none⟩) none ca cb 1 0 wx PX.out.po hpx HNA.out HNB.out (fun h => by cases h) (fun _ => rfl)
    clear hpx hx0 hx1 hkx hgx P4
    generalize JoinR o ⟨o.N, [(x1, x2)], []⟩ = RJ at *
    obtain ⟨J, ej⟩ := RJ
    simp only [] at hF HJP HPJ
    refine hF.mono ?_
    clear hF
    rintro e w8 ⟨xa, xc, ya, yc, rfl, hoa, hob, hk⟩
    have P8 := Lib.hid (PX.out.kept hk)
    have HIJ : Hid (ej = 0 → IsProb w8 J xa ya) := Lib.hid fun h => HJP.out h w8 _ xa ya xc yc hoa hob
    clear hk PX hoa hob HJP
    obtain ⟨w9, e9, hk9, hb9, -⟩ := alloc_prob w8 J.N J.arcs J.near xa xc ya yc
    obtain ⟨tj, htj⟩ : ∃ tj, w8.heap.size = tj := ⟨_, rfl⟩
    rw [htj] at hb9
    have P9 := Lib.hid (P8.out.kept hk9)
    have HIJ9 : Hid (ej = 0 → IsProb w9 J xa ya) := Lib.hid fun h => (HIJ.out h).kept hk9
    have HBJ : Hid (ProbBox w9 tj J xa xc ya yc) := Lib.hid hb9
    clear hk9 hb9 P8 HIJ
    by_cases hj : ej = 0
    case neg =>
      have e1 : (ej != 0) = true := by simp [hj]
      clear hj
      go_wp2_with fail
      clear e9 htj
      refine (alive_any w9).mono ?_
      rintro e w10 ⟨rfl, hk⟩
      have HKZ := Lib.hid (P9.out.k.trans hk)
      clear hk
      go_wp2
      go_ret
      exact ⟨rfl, HKZ.out⟩
    have ez2 : (ej != 0) = false := by simp [hj]
    have HJE := Lib.hid hj
    clear hj
    obtain ⟨q0, q1, q2⟩ := HBJ.out
    have qb := lt_of_cell q0
    go_wp2_with fail
    clear q0 q1 q2 qb e9 htj ez2
    have hF := Count_any J xa ya xc yc w9 (HIJ9.out HJE.out)
    have hCJ : CountR J = (cnt (webOf J) 0#32, 0) := by unfold CountR; rw [if_pos (HPJ.out HJE.out).1]
    rw [hCJ] at hF
    simp only [] at hF
    have hle := (HPJ.out HJE.out).2
    rw [HN0.out] at hle
    have e3 : decide (cnt (webOf J) 0#32 ≤ 0) = true := decide_eq_true hle
    have E3 := Lib.hid e3
    clear hCJ hle e3 HPJ HIJ9 HBJ
    refine hF.mono ?_
    clear hF
    rintro e w10 ⟨rfl, hk⟩
    have P10 := Lib.hid (P9.out.kept hk)
    clear hk P9
    go_wp2_with fail
    refine (alive_any w10).mono ?_
    rintro e w11 ⟨rfl, hk⟩
    have HKZ := Lib.hid (P10.out.k.trans hk)
    clear hk P10
    have e3 := E3.out
    generalize cnt (webOf J) 0#32 = nj at *
    go_wp2
    go_ret
    exact ⟨rfl, HKZ.out⟩
  case false =>
    have hnz : ¬ cnt (webOf o) 0#32 = 0 := fun h => by have := HCC.out.1 h; rw [hcb] at this; cases this
    have hsm := HSM.out
    have hes : errS o = 0 := by unfold errS; rw [if_pos HC.out, hcb]; rfl
    have hgo : Goes (webOf o) := goes_webOf hes
    have HZ := Lib.hid (nth_zero H12.out hgo)
    have HF24 := Lib.hid (first_len (by have := H12.out; omega) hgo)
    have hfe : FirstR o = (firstOf (webOf o), 0) := by unfold FirstR; rw [if_pos hes]
    rw [hfe] at hF
    obtain ⟨n, hn⟩ : ∃ n, cnt (webOf o) 0#32 = n := ⟨_, rfl⟩
    have HNC := Lib.hid hn
    have hnb : 0 < n ∧ n ≤ 479001600 := by omega
    rw [hn]
    have HNB2 := Lib.hid hnb
    refine hF.mono ?_
    clear hF hfe hcb hW hnz hsm hes hgo hn
    rintro e w4 ⟨v, rfl, hnew, hk⟩
    obtain ⟨fo, fc, rfl, -, hfi, -⟩ := hnew
    have P4 := Lib.hid (P3.out.kept hk)
    have FI4 := Lib.hid hfi
    clear hk P3 hfi
    obtain ⟨hn1, hn2⟩ := hnb
    have d1 : decide (n > 0) = true := decide_eq_true hn1
    have d2 : (n == 0) = false := by simp; omega
    obtain ⟨q0, q1, q2⟩ := P4.out.b
    have qb := lt_of_cell q0
    go_wp2_with fail
    clear q0 q1 q2 qb d1 d2 hn1 hn2
    obtain ⟨at', hat⟩ : ∃ a, (wrap64 (k.tmod n + n)).tmod n = a := ⟨_, rfl⟩
    have hat2 : 0 ≤ at' ∧ at' < n := by rw [← hat]; exact at_range k HNB2.out.1 HNB2.out.2
    rw [hat]
    have HAT := Lib.hid hat2
    obtain ⟨m1, m2, m3⟩ := HNR.out at' hat2.1 (by rw [HNC.out]; exact hat2.2)
    have hN1 : NthR o at' = (nthOf (webOf o) at', 0) := by unfold NthR; rw [if_pos HE.out, HNC.out, if_neg (by omega)]
    have hN0 : NthR o 0 = (firstOf (webOf o), 0) := by unfold NthR; rw [if_pos HE.out, HNC.out, if_neg (by have := HNB2.out; omega), HZ.out]
    have hRK : RankR o (nthOf (webOf o) at') = (at', 0) := by unfold RankR; rw [if_pos HE.out, if_pos m1, m2]
    have hCO : CheckOrderR o (nthOf (webOf o) at') = (true, 0) := by unfold CheckOrderR; rw [if_pos HC.out, m1]
    have hLL : (nthOf (webOf o) at').length ≤ 12 := by rw [m3]; exact H12.out
    have hFL : (firstOf (webOf o)).length ≤ 24 := HF24.out
    generalize nthOf (webOf o) at' = L at *
    generalize firstOf (webOf o) = F at *
    have HN0' := Lib.hid hN0
    have HRK := Lib.hid hRK
    have HCO := Lib.hid hCO
    have HLL := Lib.hid hLL
    have HFL := Lib.hid hFL
    have hF := Nth_any o ao bo ca cb at' w4 P4.out.po
    rw [hN1] at hF
    simp only [] at hF
    clear hN0 hRK hCO hLL hFL hN1 m1 m2 m3 hat hat2 HNR HZ
    refine hF.mono ?_
    clear hF
    rintro e w5 ⟨v, rfl, hnew, hk⟩
    obtain ⟨lo, lc, rfl, -, hli, -⟩ := hnew
    have P5 := Lib.hid (P4.out.kept hk)
    have FI5 := Lib.hid (FI4.out.kept hk)
    have LI5 := Lib.hid hli
    clear hk P4 FI4 hli
    obtain ⟨q0, q1, q2⟩ := P5.out.b
    have qb := lt_of_cell q0
    go_wp2_with fail
    clear q0 q1 q2 qb
    have hF := Rank_any o ao bo ca cb L lo lc w5 P5.out.po LI5.out (by have := HLL.out; omega)
    rw [HRK.out] at hF
    simp only [] at hF
    refine hF.mono ?_
    clear hF HRK
    rintro e w6 ⟨rfl, hk⟩
    have P6 := Lib.hid (P5.out.kept hk)
    have FI6 := Lib.hid (FI5.out.kept hk)
    have LI6 := Lib.hid (LI5.out.kept hk)
    clear hk P5 FI5 LI5
    obtain ⟨q0, q1, q2⟩ := P6.out.b
    have qb := lt_of_cell q0
    go_wp2_with fail
    clear q0 q1 q2 qb
    have hF := Nth_any o ao bo ca cb 0 w6 P6.out.po
    rw [HN0'.out] at hF
    simp only [] at hF
    refine hF.mono ?_
    clear hF HN0'
    rintro e w7 ⟨v, rfl, hnew, hk⟩
    obtain ⟨zo, zc, rfl, -, hzi, -⟩ := hnew
    have P7 := Lib.hid (P6.out.kept hk)
    have FI7 := Lib.hid (FI6.out.kept hk)
    have LI7 := Lib.hid (LI6.out.kept hk)
    have ZI7 := Lib.hid hzi
    clear hk P6 FI6 LI6 hzi
    obtain ⟨q0, q1, q2⟩ := P7.out.b
    have qb := lt_of_cell q0
    go_wp2_with fail
    clear q0 q1 q2 qb
    have hF := CheckOrder_any o ao bo ca cb L lo lc w7 P7.out.po LI7.out (by have := HLL.out; omega)
    rw [HCO.out] at hF
    simp only [] at hF
    refine hF.mono ?_
    clear hF HCO
    rintro e w7b ⟨rfl, hk⟩
    have P7b := Lib.hid (P7.out.kept hk)
    have FI7b := Lib.hid (FI7.out.kept hk)
    have ZI7b := Lib.hid (ZI7.out.kept hk)
    clear hk P7 FI7 LI7 ZI7
    have ea : (at' != at') = false := by simp
    go_wp2_with fail
    clear ea
    refine (same_any F zo fo zc fc _ w7b ZI7b.out FI7b.out rfl (by have := HFL.out; omega)).mono ?_
    rintro e w7c ⟨rfl, hk⟩
    have P7c := Lib.hid (P7b.out.kept hk)
    clear hk P7b FI7b ZI7b
    obtain ⟨q0, q1, q2⟩ := P7c.out.b
    have qb := lt_of_cell q0
    have r0 := P7c.out.c0
    have r1 := P7c.out.c1
    have rb := lt_of_cell r0
    go_wp2_with fail
    clear q0 q1 q2 qb r0 r1 rb
    obtain ⟨gx, hgx⟩ : ∃ gx, w7c.heap.size = gx := ⟨_, rfl⟩
    have hkx : Kept w7c (w7c.alloc (.cells #[.int .i64 x1, .int .i64 x2] 83)) := (Kept.refl _).alloc _
    have hx0 : (w7c.alloc (.cells #[.int .i64 x1, .int .i64 x2] 83)).cell? ⟨w7c.heap.size, 0, none⟩ = some (.int .i64 x1) := by simp [go_sem]
    have hx1 : (w7c.alloc (.cells #[.int .i64 x1, .int .i64 x2] 83)).cell? ⟨w7c.heap.size, 1, none⟩ = some (.int .i64 x2) := by simp [go_sem]
    generalize w7c.alloc (.cells #[.int .i64 x1, .int .i64 x2] 83) = wx at *
    rw [hgx] at hx0 hx1 ⊢
    have PX := Lib.hid (P7c.out.kept hkx)
    have hpx : IsProb wx ⟨o.N, [(x1, x2)], []⟩ (some ⟨gx, 0, none⟩) none := ⟨fun i hi => by
      have : i = 0 := by simp at hi; omega
      subst this
      exact ⟨gx, 0, rfl, hx0, hx1⟩, Pairs.nil _ _, by simp, by simp⟩
    have hF : Calls Try.prog 70 #[probV o ao ca bo cb, .agg #[.int .i64 o.N, .slice (some ⟨gx, 0, none⟩) 1 1, .slice none 0 0]] wx (ProbPost (JoinR o ⟨o.N, [(x1, x2)], []⟩).1 (JoinR o ⟨o.N, [(x1, x2)], []⟩).2 wx) := Join_any o ⟨o.N, [(x1, x2)], []⟩ ao bo (some ⟨gx, 0, none⟩) none ca cb 1 0 wx PX.out.po hpx HNA.out HNB.out (fun h => by cases h) (fun _ => rfl)
    clear hpx hx0 hx1 hkx hgx P7c
    generalize JoinR o ⟨o.N, [(x1, x2)], []⟩ = RJ at *
    obtain ⟨J, ej⟩ := RJ
    simp only [] at hF HJP HPJ
    refine hF.mono ?_
    clear hF
    rintro e w8 ⟨xa, xc, ya, yc, rfl, hoa, hob, hk⟩
    have P8 := Lib.hid (PX.out.kept hk)
    have HIJ : Hid (ej = 0 → IsProb w8 J xa ya) := Lib.hid fun h => HJP.out h w8 _ xa ya xc yc hoa hob
    clear hk PX hoa hob HJP
    obtain ⟨w9, e9, hk9, hb9, -⟩ := alloc_prob w8 J.N J.arcs J.near xa xc ya yc
    obtain ⟨tj, htj⟩ : ∃ tj, w8.heap.size = tj := ⟨_, rfl⟩
    rw [htj] at hb9
    have P9 := Lib.hid (P8.out.kept hk9)
    have HIJ9 : Hid (ej = 0 → IsProb w9 J xa ya) := Lib.hid fun h => (HIJ.out h).kept hk9
    have HBJ : Hid (ProbBox w9 tj J xa xc ya yc) := Lib.hid hb9
    clear hk9 hb9 P8 HIJ
    by_cases hj : ej = 0
    case neg =>
      have e1 : (ej != 0) = true := by simp [hj]
      clear hj
      go_wp2_with fail
      clear e9 htj
      refine (alive_any w9).mono ?_
      rintro e w10 ⟨rfl, hk⟩
      have HKZ := Lib.hid (P9.out.k.trans hk)
      clear hk
      go_wp2
      go_ret
      exact ⟨rfl, HKZ.out⟩
    have ez2 : (ej != 0) = false := by simp [hj]
    have HJE := Lib.hid hj
    clear hj
    obtain ⟨q0, q1, q2⟩ := HBJ.out
    have qb := lt_of_cell q0
    go_wp2_with fail
    clear q0 q1 q2 qb e9 htj ez2
    have hF := Count_any J xa ya xc yc w9 (HIJ9.out HJE.out)
    have hCJ : CountR J = (cnt (webOf J) 0#32, 0) := by unfold CountR; rw [if_pos (HPJ.out HJE.out).1]
    rw [hCJ] at hF
    simp only [] at hF
    have hle := (HPJ.out HJE.out).2
    rw [HNC.out] at hle
    have e3 : decide (cnt (webOf J) 0#32 ≤ n) = true := decide_eq_true hle
    have E3 := Lib.hid e3
    clear hCJ hle e3 HPJ HIJ9 HBJ
    refine hF.mono ?_
    clear hF
    rintro e w10 ⟨rfl, hk⟩
    have P10 := Lib.hid (P9.out.kept hk)
    clear hk P9
    go_wp2_with fail
    refine (alive_any w10).mono ?_
    rintro e w11 ⟨rfl, hk⟩
    have HKZ := Lib.hid (P10.out.k.trans hk)
    clear hk P10
    have e3 := E3.out
    generalize cnt (webOf J) 0#32 = nj at *
    go_wp2
    go_ret
    exact ⟨rfl, HKZ.out⟩
theorem OrderPlaces_any (o : Prob) (ao bo : Option Addr) (ca cb : Nat) (k x1 x2 : Int) (w : World) (hA : Pairs w ao o.arcs) (hB : Pairs w bo o.near) (hna : ao = none → ca = 0) (hnb : bo = none → cb = 0) (hlen : o.arcs.length < 9223372036854775808 ∧ o.near.length < 9223372036854775808) :
    Calls Try.prog 21 #[probV o ao ca bo cb, .int .i64 k, .agg #[.int .i64 x1, .int .i64 x2]] w (Gives (.bool true) w) := by
  by_cases hc : chk o = 0
  · have ho := slim_prob hA hB (chk_slim hc)
    by_cases he : errC o = 0
    · exact OrderPlaces_main o ao bo ca cb k x1 x2 w ho hna hnb he
    · refine OrderPlaces_bad o ao bo ca cb k x1 x2 w (errC o) he (fun X hX => ?_) (fun X hX => ?_)
      · have hF := Count_any o ao bo ca cb X (ho.kept hX)
        have hr : CountR o = (0, errC o) := by unfold CountR; rw [if_neg he]
        rw [hr] at hF
        exact hF
      · have hF := Nth_any o ao bo ca cb k X (ho.kept hX)
        have hr : NthR o k = ([], errC o) := by unfold NthR; rw [if_neg he]
        rw [hr] at hF
        exact hF
  · exact OrderPlaces_bad o ao bo ca cb k x1 x2 w (chk o) hc (fun X hX => Count_bad_b o ao bo ca cb X (hA.kept hX) (hB.kept hX) hlen.1 hlen.2 hc) (fun X hX => Nth_bad_b o ao bo ca cb k X (hA.kept hX) (hB.kept hX) hlen.1 hlen.2 hc)
end Go.Proofs.Yteljjkghjbofnaa
