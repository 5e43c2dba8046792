/- TopOrders: the walk. -/
import Derived.Test.YtgmodcipbklejaaV
set_option maxRecDepth 100000
namespace Go.Proofs.Ytgmodcipbklejaa
open Go Go.Proofs Go.RowKit
attribute [local go_sem] Oper.semAt_some

/-- The later day is the second's. -/
def befB (x : List Int) (p : Int × Int) : Bool := decide (dayOf x p.1 < dayOf x p.2)
theorem orders_agree {N : Nat} {c : List Obs} {re st : Nat → Nat → Bool} {cert : List (Int × Int)} {x all r : List Int} (hw : WebOk N c re st) (hc : ∀ y ∈ c, 1 ≤ y.a ∧ y.a ≤ N ∧ 1 ≤ y.b ∧ y.b ≤ N ∧ y.a ≠ y.b) (hp : ∀ p : Int × Int, p ∈ cert ↔ ∃ x y : Nat, p = ((x : Int), (y : Int)) ∧ 1 ≤ x ∧ x ≤ N ∧ 1 ≤ y ∧ y ≤ N ∧ x ≠ y ∧ st x y = true) (ha : all.Pairwise (· < ·)) (hr : RankOf all x r) (hn : x.length = N) : allTrueB r c = cert.all (befB x) := by
  rw [Bool.eq_iff_iff]
  unfold allTrueB
  simp only [List.all_eq_true]
  constructor
  · intro h p hpm
    obtain ⟨a, b, rfl, h1, h2, h3, h4, h5, hst⟩ := (hp p).1 hpm
    refine decide_eq_true (hw.sound (dayOf x) (fun y hy => ?_) a b hst)
    obtain ⟨g1, g2, g3, g4, -⟩ := hc y hy
    exact (rank_lt ha hr (by omega) (by omega)).1 (of_decide_eq_true (h y hy))
  · intro h y hy
    obtain ⟨g1, g2, g3, g4, g5⟩ := hc y hy
    have hm : (y.a, y.b) ∈ cert := (hp _).2 ⟨y.a.toNat, y.b.toNat, by rw [Int.toNat_of_nonneg (by omega), Int.toNat_of_nonneg (by omega)], by omega, by omega, by omega, by omega, by omega, hw.edge _ _ ⟨y, hy, by omega, by omega⟩⟩
    exact decide_eq_true ((rank_lt ha hr (by omega) (by omega)).2 (of_decide_eq_true (h _ hm)))
theorem all_succ {α : Type} {f : α → Bool} {l : List α} {i : Nat} (h : i < l.length) : (l.take (i + 1)).all f = ((l.take i).all f && f l[i]) := by
  rw [List.take_succ_eq_append_getElem h, List.all_append]
  simp

set_option maxHeartbeats 4000000 in
theorem TopOrders_any (o : Prob) (ao bo : Option Addr) (ca cb : Nat) (dry : Int) (l : List Int) (lo : Option Addr) (lc : Nat) (ot : List Int) (oo : Option Addr) (oc : Nat) (picks : List Int) (po : Option Addr) (pc : Nat) (K : Int) (w : World) (ha : Pairs w ao o.arcs) (hb : Pairs w bo o.near) (hla : o.arcs.length < 9223372036854775808) (hlb : o.near.length < 9223372036854775808) (hl : Ints w lo l) (hlc : l.length ≤ lc) (hll : l.length < 9223372036854775808) (ho : Ints w oo ot) (hoc : ot.length ≤ oc) (hol : ot.length < 9223372036854775808) (hp : U8s w po picks) (hpl : picks.length < 9223372036854775808) :
    Calls Try.prog 4 #[probV o ao ca bo cb, .int .i64 dry, .slice lo l.length lc, .slice oo ot.length oc, .slice po picks.length pc, .int .i64 K] w (Gives (.bool true) w) := by
  have HA := Lib.hid ha
  have HB := Lib.hid hb
  have HL := Lib.hid hl
  have HOT := Lib.hid ho
  have HP := Lib.hid hp
  have HLC := Lib.hid hlc
  have HOC := Lib.hid hoc
  clear ha hb hl hp hlc ho hoc
  go_enter Try.func4, Try.ntmps4
  obtain ⟨w0, e0, hk0, hb0, -⟩ := alloc_prob w o.N o.arcs o.near ao ca bo cb
  have HK0 := Lib.hid hk0
  have HB0 := Lib.hid hb0
  obtain ⟨q0, q1, q2⟩ := HB0.out
  have qb := lt_of_cell q0
  clear hk0 hb0
  by_cases h1 : 7 < o.N
  case pos =>
    have eh10 : decide (7 < o.N) = true := decide_eq_true (by omega)
    go_wp2_with fail
    clear q0 q1 q2 qb e0
    refine (read_any w0).mono ?_
    rintro e w1 ⟨rfl, hk1⟩
    have HK1 := Lib.hid (HK0.out.trans hk1)
    clear hk1
    go_wp2
    go_ret
    exact ⟨rfl, HK1.out⟩
  have eh10 : decide (7 < o.N) = false := decide_eq_false (by omega)
  by_cases h2 : 60 < o.arcs.length
  case pos =>
    have eh20 : decide (60 < (o.arcs.length : Int)) = true := decide_eq_true (by omega)
    have eh21 : decide (60 < o.arcs.length) = true := decide_eq_true (by omega)
    go_wp2_with fail
    clear q0 q1 q2 qb e0
    refine (read_any w0).mono ?_
    rintro e w1 ⟨rfl, hk1⟩
    have HK1 := Lib.hid (HK0.out.trans hk1)
    clear hk1
    go_wp2
    go_ret
    exact ⟨rfl, HK1.out⟩
  have eh20 : decide (60 < (o.arcs.length : Int)) = false := decide_eq_false (by omega)
  have eh21 : decide (60 < o.arcs.length) = false := decide_eq_false (by omega)
  by_cases h3 : 60 < o.near.length
  case pos =>
    have eh30 : decide (60 < (o.near.length : Int)) = true := decide_eq_true (by omega)
    have eh31 : decide (60 < o.near.length) = true := decide_eq_true (by omega)
    go_wp2_with fail
    clear q0 q1 q2 qb e0
    refine (read_any w0).mono ?_
    rintro e w1 ⟨rfl, hk1⟩
    have HK1 := Lib.hid (HK0.out.trans hk1)
    clear hk1
    go_wp2
    go_ret
    exact ⟨rfl, HK1.out⟩
  have eh30 : decide (60 < (o.near.length : Int)) = false := decide_eq_false (by omega)
  have eh31 : decide (60 < o.near.length) = false := decide_eq_false (by omega)
  by_cases h4 : 10 < l.length
  case pos =>
    have eh40 : decide (10 < (l.length : Int)) = true := decide_eq_true (by omega)
    have eh41 : decide (10 < l.length) = true := decide_eq_true (by omega)
    go_wp2_with fail
    clear q0 q1 q2 qb e0
    refine (read_any w0).mono ?_
    rintro e w1 ⟨rfl, hk1⟩
    have HK1 := Lib.hid (HK0.out.trans hk1)
    clear hk1
    go_wp2
    go_ret
    exact ⟨rfl, HK1.out⟩
  have eh40 : decide (10 < (l.length : Int)) = false := decide_eq_false (by omega)
  have eh41 : decide (10 < l.length) = false := decide_eq_false (by omega)
  by_cases h6 : 10 < ot.length
  case pos =>
    have eh60 : decide (10 < (ot.length : Int)) = true := decide_eq_true (by omega)
    have eh61 : decide (10 < ot.length) = true := decide_eq_true (by omega)
    go_wp2_with fail
    clear q0 q1 q2 qb e0
    refine (read_any w0).mono ?_
    rintro e w1 ⟨rfl, hk1⟩
    have HK1 := Lib.hid (HK0.out.trans hk1)
    clear hk1
    go_wp2
    go_ret
    exact ⟨rfl, HK1.out⟩
  have eh60 : decide (10 < (ot.length : Int)) = false := decide_eq_false (by omega)
  have eh61 : decide (10 < ot.length) = false := decide_eq_false (by omega)
  by_cases h5 : 20 < picks.length
  case pos =>
    have eh50 : decide (20 < (picks.length : Int)) = true := decide_eq_true (by omega)
    have eh51 : decide (20 < picks.length) = true := decide_eq_true (by omega)
    go_wp2_with fail
    clear q0 q1 q2 qb e0
    refine (read_any w0).mono ?_
    rintro e w1 ⟨rfl, hk1⟩
    have HK1 := Lib.hid (HK0.out.trans hk1)
    clear hk1
    go_wp2
    go_ret
    exact ⟨rfl, HK1.out⟩
  have eh50 : decide (20 < (picks.length : Int)) = false := decide_eq_false (by omega)
  have eh51 : decide (20 < picks.length) = false := decide_eq_false (by omega)
  have G1 : Hid (o.N ≤ 7) := Lib.hid (by omega)
  have G2 : Hid (o.arcs.length ≤ 60) := Lib.hid (by omega)
  have G3 : Hid (o.near.length ≤ 60) := Lib.hid (by omega)
  have G4 : Hid (l.length ≤ 10) := Lib.hid (by omega)
  have G6 : Hid (ot.length ≤ 10) := Lib.hid (by omega)
  have G5 : Hid (picks.length ≤ 20) := Lib.hid (by omega)
  have HO : Hid (IsProb w o ao bo) := Lib.hid ⟨HA.out, HB.out, by omega, by omega⟩
  clear HA HB hla hlb hll hpl hol
  go_wp2_with fail
  clear q0 q1 q2 qb e0 eh10 eh20 eh21 eh30 eh31 eh40 eh41 eh60 eh61 eh50 eh51 h1 h2 h3 h4 h5 h6
  obtain ⟨g, hg⟩ : ∃ g, w.heap.size = g := ⟨_, rfl⟩
  rw [hg] at HB0
  simp only [hg]
  clear hg
  have h1' := G1.out
  have h2' := G2.out
  have h3' := G3.out
  have h4' := G4.out
  have h5' := G5.out
  have h6' := G6.out
  clear G1 G2 G3 G4 G5 G6
  refine (Days_any o ao bo ca cb dry l lo lc w0 (HO.out.kept HK0.out) (HL.out.kept HK0.out) (by omega) HLC.out).mono ?_
  rintro e w1 ⟨v, rfl, hnew, hk1⟩
  have HK1 := Lib.hid (HK0.out.trans hk1)
  have HB1 := Lib.hid (HB0.out.kept hk1)
  clear hk1
  by_cases herr : datErr o dry l = 0
  case neg =>
    have hr : DaysR o dry l = ([], datErr o dry l) := by unfold DaysR; rw [if_neg herr]
    rw [hr] at hnew ⊢
    have hne : (datErr o dry l != 0) = true := by simp [herr]
    clear hr hnew herr
    obtain ⟨q0, q1, q2⟩ := HB1.out
    have qb := lt_of_cell q0
    go_wp2_with fail
    clear q0 q1 q2 qb
    refine (Days_any o ao bo ca cb dry ot oo oc w1 (HO.out.kept HK1.out) (HOT.out.kept HK1.out) (by omega) HOC.out).mono ?_
    rintro e w2 ⟨v2, rfl, -, hk2⟩
    have HK2 := Lib.hid (HK1.out.trans hk2)
    clear hk2
    generalize DaysR o dry ot = rr
    go_wp2_with fail
    refine (read_any w2).mono ?_
    rintro e w3 ⟨rfl, hk3⟩
    have HK3 := Lib.hid (HK2.out.trans hk3)
    clear hk3
    go_wp2
    go_ret
    exact ⟨rfl, HK3.out⟩
  have hr : DaysR o dry l = (daysOf (webOf o) dry l, 0) := by unfold DaysR; rw [if_pos herr]
  rw [hr] at hnew ⊢
  obtain ⟨f1, f2, f3, f4, f5⟩ := days_facts herr
  obtain ⟨dl, dc, rfl, -, hd, -⟩ := hnew
  clear hr herr
  simp only []
  generalize daysOf (webOf o) dry l = d at *
  have HD := Lib.hid hd
  have HC := Lib.hid f1
  have HN := Lib.hid f2
  have HCD := Lib.hid f4
  have HDS := Lib.hid f5
  have hdl : d.length ≤ 7 := by omega
  clear hd f1 f2 f3 f4 f5
  obtain ⟨q0, q1, q2⟩ := HB1.out
  have qb := lt_of_cell q0
  go_wp2_with fail
  clear q0 q1 q2 qb
  refine (Days_any o ao bo ca cb dry ot oo oc w1 (HO.out.kept HK1.out) (HOT.out.kept HK1.out) (by omega) HOC.out).mono ?_
  rintro e w2 ⟨v, rfl, hnew, hk2⟩
  have HK2 := Lib.hid (HK1.out.trans hk2)
  have HB2 := Lib.hid (HB1.out.kept hk2)
  have HD2 := Lib.hid (HD.out.kept hk2)
  clear hk2 HD HB1
  by_cases herr : datErr o dry ot = 0
  case neg =>
    have hr : DaysR o dry ot = ([], datErr o dry ot) := by unfold DaysR; rw [if_neg herr]
    rw [hr] at hnew ⊢
    have hne : (datErr o dry ot != 0) = true := by simp [herr]
    clear hr hnew herr
    go_wp2_with fail
    refine (read_any w2).mono ?_
    rintro e w3 ⟨rfl, hk3⟩
    have HK3 := Lib.hid (HK2.out.trans hk3)
    clear hk3
    go_wp2
    go_ret
    exact ⟨rfl, HK3.out⟩
  have hr : DaysR o dry ot = (daysOf (webOf o) dry ot, 0) := by unfold DaysR; rw [if_pos herr]
  rw [hr] at hnew ⊢
  obtain ⟨f1, f2, f3, f4, f5⟩ := days_facts herr
  obtain ⟨xl, xc, rfl, -, hd, -⟩ := hnew
  clear hr herr
  simp only []
  generalize daysOf (webOf o) dry ot = x at *
  have HX := Lib.hid hd
  have hxd : x.length = d.length := by have := HN.out; omega
  have HXD : Hid (x.length = d.length) := Lib.hid hxd
  have HND := Lib.hid (days_nodup f2 f5)
  clear hd f1 f2 f3 f4 f5 hxd
  obtain ⟨q0, q1, q2⟩ := HB2.out
  have qb := lt_of_cell q0
  go_wp2_with fail
  clear q0 q1 q2 qb
  refine (Shown_any o ao bo ca cb d dl dc w2 (HO.out.kept HK2.out) HD2.out HC.out HCD.out HN.out (by omega) (by omega)).mono ?_
  rintro e w3 ⟨v, rfl, hov, hk3⟩
  obtain ⟨so, sc, rfl, hsh⟩ := hov.obss
  have HSH := Lib.hid hsh
  have HK3 := Lib.hid (HK2.out.trans hk3)
  have HB3 := Lib.hid (HB2.out.kept hk3)
  have HX3 := Lib.hid (HX.out.kept hk3)
  have HF := Lib.hid (seen_facts HC.out HDS.out h5')
  clear hov hsh hk3 HD2 HB2 HX
  generalize shownF d o.near = sh at *
  go_wp2_with fail
  refine (seen_any sh so sc picks po pc w3 HSH.out (HP.out.kept HK3.out) h5').mono ?_
  rintro e w4 ⟨v, rfl, hov, hk4⟩
  obtain ⟨tso, tc, rfl, hts⟩ := hov.obss
  have HTS := Lib.hid hts
  have HK4 := Lib.hid (HK3.out.trans hk4)
  have HB4 := Lib.hid (HB3.out.kept hk4)
  have HX4 := Lib.hid (HX3.out.kept hk4)
  clear hov hts hk4 HB3 HX3 HSH
  generalize seenF sh picks = s at *
  have HSL := Lib.hid HF.out.len
  obtain ⟨q0, q1, q2⟩ := HB4.out
  have qb := lt_of_cell q0
  go_wp2_with fail
  clear q0 q1 q2 qb
  have hF := Ranks_any x.length x xl xc w4 HX4.out rfl (by have := HXD.out; omega) HND.out
  rw [show ((x.length : Nat) : Int) = o.N by have := HN.out; have := HXD.out; omega] at hF
  refine hF.mono ?_
  clear hF
  rintro e w5 ⟨v, all, r, rfl, hor, hal, ham, hrk, hk5⟩
  obtain ⟨ro, rc, rfl, hri, -⟩ := hor.ints
  have HRI := Lib.hid hri
  have hwo := rank_world hal ham hrk
  rw [HXD.out] at hwo
  have HWO := Lib.hid hwo
  have HAL := Lib.hid hal
  have HRK := Lib.hid hrk
  have HK5 := Lib.hid (HK4.out.trans hk5)
  have HB5 := Lib.hid (HB4.out.kept hk5)
  have HX5 := Lib.hid (HX4.out.kept hk5)
  have HTS5 := Lib.hid (HTS.out.kept hk5)
  clear hor hri hwo hal ham hrk hk5 HB4 HX4 HTS
  obtain ⟨q0, q1, q2⟩ := HB5.out
  have qb := lt_of_cell q0
  go_wp2_with fail
  clear q0 q1 q2 qb
  have hF := CheckWorld_any d.length s tso tc K r ro rc w5 (by omega) (by rw [HN.out]; exact HF.out.right) (by have := HSL.out; omega) HTS5.out HWO.out HRI.out
  rw [HN.out] at hF
  refine hF.mono ?_
  clear hF
  rintro e w6 ⟨rfl, hk6⟩
  have HK6 := Lib.hid (HK5.out.trans hk6)
  have HB6 := Lib.hid (HB5.out.kept hk6)
  have HX6 := Lib.hid (HX5.out.kept hk6)
  have HTS6 := Lib.hid (HTS5.out.kept hk6)
  clear hk6 HB5 HX5 HRI HTS5
  obtain ⟨bb, hbb⟩ : ∃ bb, allTrueB r (countF s K) = bb := ⟨_, rfl⟩
  rw [hbb]
  have HBB := Lib.hid hbb
  clear hbb
  obtain ⟨q0, q1, q2⟩ := HB6.out
  have qb := lt_of_cell q0
  go_wp2_with fail
  clear q0 q1 q2 qb
  have hF := Certain_any d.length s tso tc K (dayOf d) w6 (by omega) (by rw [HN.out]; exact HF.out.right) (by have := HSL.out; omega) HTS6.out (HF.out.so K)
  rw [HN.out] at hF
  refine hF.mono ?_
  clear hF
  rintro e w7 ⟨v, cert, re, st, rfl, hcv, hcl, hcm, hweb, hk7⟩
  obtain ⟨co, cc, rfl, hcp⟩ := hcv.prs
  have HAG : Hid (bb = cert.all (befB x)) := Lib.hid (by
    rw [← HBB.out]
    refine orders_agree hweb (fun y hy => ?_) hcm HAL.out HRK.out HXD.out
    obtain ⟨-, g1, g2, g3, g4, g5, -⟩ := count_over HF.out.right K y hy
    have := HN.out
    exact ⟨g1, by omega, g3, by omega, g5⟩)
  have HCM : Hid (∀ p ∈ cert, ∃ a b : Nat, p = ((a : Int), (b : Int)) ∧ 1 ≤ a ∧ a ≤ d.length ∧ 1 ≤ b ∧ b ≤ d.length) := Lib.hid (fun p hpm => by
    obtain ⟨a, b, e, h1, h2, h3, h4, -⟩ := (hcm p).1 hpm
    exact ⟨a, b, e, h1, h2, h3, h4⟩)
  have HCP := Lib.hid hcp
  have HK7 := Lib.hid (HK6.out.trans hk7)
  have HB7 := Lib.hid (HB6.out.kept hk7)
  have HX7 := Lib.hid (HX6.out.kept hk7)
  clear hcv hcm hweb hk7 hcp HB6 HX6 HTS6 HBB re st
  go_wp2_with fail
  go_loopw [26, 27] (fun gv iv wr => ∃ i : Nat, i ≤ cert.length ∧ iv = .int .i64 i ∧ gv = .bool ((cert.take i).all (befB x)) ∧ Kept w7 wr) (fun _ iv _ => cert.length - (intOf iv).toNat)
  case atStart => exact ⟨0, by omega, rfl, rfl, Kept.refl _⟩
  case round =>
    obtain ⟨i, hi, rfl, rfl, hkr⟩ := hrel
    have HKR := Lib.hid hkr
    clear hkr
    by_cases hlt : i < cert.length
    case neg =>
      have HEQ : Hid ((cert.take i).all (befB x) = bb) := Lib.hid (by rw [List.take_of_length_le (by omega)]; exact HAG.out.symm)
      rw [HEQ.out]
      clear HEQ hi
      go_wp2_with fail
      refine (read_any wr).mono ?_
      rintro e w8 ⟨rfl, hk8⟩
      have HK8 := Lib.hid (HK7.out.trans (HKR.out.trans hk8))
      clear hk8
      cases bb
      all_goals
        go_wp2
        go_ret
        exact ⟨rfl, HK8.out⟩
    obtain ⟨a, b, hab, ha1, ha2, hb1, hb2⟩ := HCM.out cert[i] (List.getElem_mem hlt)
    have HSC := Lib.hid (all_succ (f := befB x) hlt)
    obtain ⟨cbk, coff, rfl, c0, c1⟩ := (HCP.out.kept HKR.out) i hlt
    rw [hab] at c0 c1
    rw [hab] at HSC
    simp only [] at c0 c1
    have hcb := lt_of_cell c0
    obtain ⟨q0, q1, q2⟩ := HB7.out.kept HKR.out
    have qb := lt_of_cell q0
    rw [show o.N = (d.length : Int) from HN.out.symm] at q0
    clear hab
    obtain ⟨p, hp⟩ : ∃ p, a - 1 = p := ⟨_, rfl⟩
    obtain ⟨q, hq⟩ : ∃ q, b - 1 = q := ⟨_, rfl⟩
    have hwp : IntKind.i64.wrap ((a : Int) - 1) = (p : Int) := by rw [IntWalk.i64_in _ (by omega)]; omega
    have hwq : IntKind.i64.wrap ((b : Int) - 1) = (q : Int) := by rw [IntWalk.i64_in _ (by omega)]; omega
    have hpl : p < x.length := by have := HXD.out; omega
    have hql : q < x.length := by have := HXD.out; omega
    obtain ⟨db, doff, e, cp⟩ := (HX7.out.kept HKR.out) p hpl
    obtain ⟨db', doff', e', cq⟩ := (HX7.out.kept HKR.out) q hql
    rw [e] at e'
    simp only [Option.some.injEq, Addr.mk.injEq] at e'
    obtain ⟨rfl, rfl, -⟩ := e'
    subst e
    have hdbl := lt_of_cell cp
    have HDP : Hid (dayOf x a = x[p]) := Lib.hid (by unfold dayOf; rw [show ((a : Int) - 1).toNat = p by omega]; exact getD_get hpl)
    have HDQ : Hid (dayOf x b = x[q]) := Lib.hid (by unfold dayOf; rw [show ((b : Int) - 1).toNat = q by omega]; exact getD_get hql)
    unfold befB at HSC
    simp only [] at HSC
    rw [HDP.out, HDQ.out] at HSC
    generalize x[p] = va at *
    generalize x[q] = vb at *
    clear hp hq HDP HDQ
    obtain ⟨gg, hgg⟩ : ∃ gg, (cert.take i).all (befB x) = gg := ⟨_, rfl⟩
    have HSC2 : Hid ((cert.take (i + 1)).all (befB x) = (gg && decide (va < vb))) := Lib.hid (by rw [← hgg]; exact HSC.out)
    rw [hgg]
    clear hgg HSC
    go_wp2_with fail
    have HKE : Hid (Kept w7 ((wr.alloc (.cells #[.int .i64 a, .int .i64 b] 47)).drew)) := Lib.hid (HKR.out.trans ((Kept.refl wr).alloc _).drew)
    cases gg
    · refine region_tail 16 (by kernel_rfl) (by kernel_rfl) ?_
      simp only [List.take_succ_cons, List.take_zero, List.drop_succ_cons, List.drop_zero]
      iterate 2
        with_reducible refine wpStill_want ?_ (fun K hK => ?_)
        · rfl
        go_simp
        refine hK _ ?_
        clear hK K
      iterate 13
        with_reducible refine wpStill_skip ?_ ?_
        · rfl
        simp only [Act.put, List.setIfInBounds_toArray, List.set_cons_zero, List.set_cons_succ]
      iterate 1
        with_reducible refine wpStill_want ?_ (fun K hK => ?_)
        · rfl
        go_simp
        refine hK _ ?_
        clear hK K
      refine wpStill_nil ?_
      go_wp2
      go_roundw
      case measure => simp [intOf]; omega
      case rel => exact ⟨i + 1, by omega, by go_num, by rw [HSC2.out]; simp, HKE.out⟩
    · refine region_tail 16 (by kernel_rfl) (by kernel_rfl) ?_
      simp only [List.take_succ_cons, List.take_zero, List.drop_succ_cons, List.drop_zero]
      iterate 16
        with_reducible refine wpStill_want ?_ (fun K hK => ?_)
        · rfl
        go_simp
        refine hK _ ?_
        clear hK K
      refine wpStill_nil ?_
      go_wp2
      go_roundw
      case measure => simp [intOf]; omega
      case rel => exact ⟨i + 1, by omega, by go_num, by rw [HSC2.out]; simp, HKE.out⟩
end Go.Proofs.Ytgmodcipbklejaa
