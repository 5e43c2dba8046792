/- TopTrue: the walk. -/
import Derived.Test.YtgmodcipbklejaaU
set_option maxRecDepth 100000
namespace Go.Proofs.Ytgmodcipbklejaa
open Go Go.Proofs Go.RowKit
attribute [local go_sem] Oper.semAt_some

/-- The day of a thing. -/
def dayOf (d : List Int) (t : Int) : Int := d.getD (t - 1).toNat 0
/-- What is known of the observations that are seen. -/
structure SeenFacts (o : Prob) (d : List Int) (s : List Obs) : Prop where
  right : Right o.N s
  len : s.length ≤ 20
  so : ∀ K : Int, ∀ x ∈ countF s K, dayOf d x.a < dayOf d x.b
theorem seen_facts {o : Prob} {d : List Int} (hc : chk o = 0) (hd : ∀ a b : Nat, (a : Int) < o.N → (b : Int) < o.N → a ≠ b → d.getD a 0 ≠ d.getD b 0) {picks : List Int} (hp : picks.length ≤ 20) : SeenFacts o d (seenF (shownF d o.near) picks) := by
  have hov := shown_over (d := d) (near_facts hc)
  refine ⟨(seen_right hov hp).1, ?_, fun K => seen_true hov hp (D := dayOf d) (fun x hx => shown_true (near_facts hc) hd x hx) K⟩
  by_cases e : shownF d o.near = []
  · rw [e]; unfold seenF; simp
  · rw [seen_len e]; exact hp
theorem all_true {o : Prob} {d all r : List Int} {s : List Obs} (hs : SeenFacts o d s) (ha : all.Pairwise (· < ·)) (hr : RankOf all d r) (hn : (d.length : Int) = o.N) (K : Int) : allTrueB r (countF s K) = true := by
  unfold allTrueB
  rw [List.all_eq_true]
  intro x hx
  obtain ⟨-, h1, h2, h3, h4, -⟩ := count_over hs.right K x hx
  exact decide_eq_true ((rank_lt ha hr (by omega) (by omega)).2 (hs.so K x hx))

set_option maxHeartbeats 4000000 in
theorem TopTrue_any (o : Prob) (ao bo : Option Addr) (ca cb : Nat) (dry : Int) (l : List Int) (lo : Option Addr) (lc : Nat) (picks : List Int) (po : Option Addr) (pc : Nat) (K : Int) (w : World) (ha : Pairs w ao o.arcs) (hb : Pairs w bo o.near) (hla : o.arcs.length < 9223372036854775808) (hlb : o.near.length < 9223372036854775808) (hl : Ints w lo l) (hlc : l.length ≤ lc) (hll : l.length < 9223372036854775808) (hp : U8s w po picks) (hpl : picks.length < 9223372036854775808) :
    Calls Try.prog 3 #[probV o ao ca bo cb, .int .i64 dry, .slice lo l.length lc, .slice po picks.length pc, .int .i64 K] w (Gives (.bool true) w) := by
  have HA := Lib.hid ha
  have HB := Lib.hid hb
  have HL := Lib.hid hl
  have HP := Lib.hid hp
  have HLC := Lib.hid hlc
  clear ha hb hl hp hlc
  go_enter Try.func3, Try.ntmps3
  obtain ⟨w0, e0, hk0, hb0, -⟩ := alloc_prob w o.N o.arcs o.near ao ca bo cb
  have HK0 := Lib.hid hk0
  have HB0 := Lib.hid hb0
  obtain ⟨q0, q1, q2⟩ := HB0.out
  have qb := lt_of_cell q0
  clear hk0 hb0
  by_cases h1 : 8 < o.N
  case pos =>
    have eh10 : decide (8 < o.N) = true := decide_eq_true (by omega)
    go_wp2_with fail
    clear q0 q1 q2 qb e0
    refine (read_any w0).mono ?_
    rintro e w1 ⟨rfl, hk1⟩
    have HK1 := Lib.hid (HK0.out.trans hk1)
    clear hk1
    go_wp2
    go_ret
    exact ⟨rfl, HK1.out⟩
  have eh10 : decide (8 < o.N) = false := decide_eq_false (by omega)
  by_cases h2 : 60 < o.arcs.length
  case pos =>
    have eh20 : decide (60 < (o.arcs.length : Int)) = true := decide_eq_true (by omega)
    have eh21 : decide (60 < o.arcs.length) = true := decide_eq_true (by omega)
    go_wp2_with fail
    clear q0 q1 q2 qb e0
    refine (read_any w0).mono ?_
    rintro e w1 ⟨rfl, hk1⟩
    have HK1 := Lib.hid (HK0.out.trans hk1)
    clear hk1
    go_wp2
    go_ret
    exact ⟨rfl, HK1.out⟩
  have eh20 : decide (60 < (o.arcs.length : Int)) = false := decide_eq_false (by omega)
  have eh21 : decide (60 < o.arcs.length) = false := decide_eq_false (by omega)
  by_cases h3 : 60 < o.near.length
  case pos =>
    have eh30 : decide (60 < (o.near.length : Int)) = true := decide_eq_true (by omega)
    have eh31 : decide (60 < o.near.length) = true := decide_eq_true (by omega)
    go_wp2_with fail
    clear q0 q1 q2 qb e0
    refine (read_any w0).mono ?_
    rintro e w1 ⟨rfl, hk1⟩
    have HK1 := Lib.hid (HK0.out.trans hk1)
    clear hk1
    go_wp2
    go_ret
    exact ⟨rfl, HK1.out⟩
  have eh30 : decide (60 < (o.near.length : Int)) = false := decide_eq_false (by omega)
  have eh31 : decide (60 < o.near.length) = false := decide_eq_false (by omega)
  by_cases h4 : 10 < l.length
  case pos =>
    have eh40 : decide (10 < (l.length : Int)) = true := decide_eq_true (by omega)
    have eh41 : decide (10 < l.length) = true := decide_eq_true (by omega)
    go_wp2_with fail
    clear q0 q1 q2 qb e0
    refine (read_any w0).mono ?_
    rintro e w1 ⟨rfl, hk1⟩
    have HK1 := Lib.hid (HK0.out.trans hk1)
    clear hk1
    go_wp2
    go_ret
    exact ⟨rfl, HK1.out⟩
  have eh40 : decide (10 < (l.length : Int)) = false := decide_eq_false (by omega)
  have eh41 : decide (10 < l.length) = false := decide_eq_false (by omega)
  by_cases h5 : 20 < picks.length
  case pos =>
    have eh50 : decide (20 < (picks.length : Int)) = true := decide_eq_true (by omega)
    have eh51 : decide (20 < picks.length) = true := decide_eq_true (by omega)
    go_wp2_with fail
    clear q0 q1 q2 qb e0
    refine (read_any w0).mono ?_
    rintro e w1 ⟨rfl, hk1⟩
    have HK1 := Lib.hid (HK0.out.trans hk1)
    clear hk1
    go_wp2
    go_ret
    exact ⟨rfl, HK1.out⟩
  have eh50 : decide (20 < (picks.length : Int)) = false := decide_eq_false (by omega)
  have eh51 : decide (20 < picks.length) = false := decide_eq_false (by omega)
  have G1 : Hid (o.N ≤ 8) := Lib.hid (by omega)
  have G2 : Hid (o.arcs.length ≤ 60) := Lib.hid (by omega)
  have G3 : Hid (o.near.length ≤ 60) := Lib.hid (by omega)
  have G4 : Hid (l.length ≤ 10) := Lib.hid (by omega)
  have G5 : Hid (picks.length ≤ 20) := Lib.hid (by omega)
  have HO : Hid (IsProb w o ao bo) := Lib.hid ⟨HA.out, HB.out, by omega, by omega⟩
  clear HA HB hla hlb hll hpl
  go_wp2_with fail
  clear q0 q1 q2 qb e0 eh10 eh20 eh21 eh30 eh31 eh40 eh41 eh50 eh51 h1 h2 h3 h4 h5
  obtain ⟨g, hg⟩ : ∃ g, w.heap.size = g := ⟨_, rfl⟩
  rw [hg] at HB0
  simp only [hg]
  clear hg
  have h1' := G1.out
  have h2' := G2.out
  have h3' := G3.out
  have h4' := G4.out
  have h5' := G5.out
  clear G1 G2 G3 G4 G5
  refine (Days_any o ao bo ca cb dry l lo lc w0 (HO.out.kept HK0.out) (HL.out.kept HK0.out) (by omega) HLC.out).mono ?_
  rintro e w1 ⟨v, rfl, hnew, hk1⟩
  have HK1 := Lib.hid (HK0.out.trans hk1)
  have HB1 := Lib.hid (HB0.out.kept hk1)
  clear hk1
  by_cases herr : datErr o dry l = 0
  case neg =>
    have hr : DaysR o dry l = ([], datErr o dry l) := by unfold DaysR; rw [if_neg herr]
    rw [hr] at hnew ⊢
    have hne : (datErr o dry l != 0) = true := by simp [herr]
    clear hr hnew herr
    go_wp2_with fail
    refine (read_any w1).mono ?_
    rintro e w2 ⟨rfl, hk2⟩
    have HK2 := Lib.hid (HK1.out.trans hk2)
    clear hk2
    go_wp2
    go_ret
    exact ⟨rfl, HK2.out⟩
  have hr : DaysR o dry l = (daysOf (webOf o) dry l, 0) := by unfold DaysR; rw [if_pos herr]
  rw [hr] at hnew ⊢
  obtain ⟨f1, f2, f3, f4, f5⟩ := days_facts herr
  obtain ⟨dl, dc, rfl, -, hd, -⟩ := hnew
  clear hr herr
  simp only []
  generalize daysOf (webOf o) dry l = d at *
  have HD := Lib.hid hd
  have HC := Lib.hid f1
  have HN := Lib.hid f2
  have HCD := Lib.hid f4
  have HDS := Lib.hid f5
  have hdl : d.length ≤ 8 := by omega
  clear hd f1 f2 f3 f4 f5
  obtain ⟨q0, q1, q2⟩ := HB1.out
  have qb := lt_of_cell q0
  go_wp2_with fail
  clear q0 q1 q2 qb
  refine (Shown_any o ao bo ca cb d dl dc w1 (HO.out.kept HK1.out) HD.out HC.out HCD.out HN.out (by omega) (by omega)).mono ?_
  rintro e w2 ⟨v, rfl, hov, hk2⟩
  obtain ⟨so, sc, rfl, hsh⟩ := hov.obss
  have HSH := Lib.hid hsh
  have HK2 := Lib.hid (HK1.out.trans hk2)
  have HB2 := Lib.hid (HB1.out.kept hk2)
  have HD2 := Lib.hid (HD.out.kept hk2)
  have HF := Lib.hid (seen_facts HC.out HDS.out h5')
  have HND := Lib.hid (days_nodup HN.out HDS.out)
  clear hov hsh hk2 HD HB1
  generalize shownF d o.near = sh at *
  obtain ⟨q0, q1, q2⟩ := HB2.out
  have qb := lt_of_cell q0
  go_wp2_with fail
  clear q0 q1 q2 qb
  have hF := Ranks_any d.length d dl dc w2 HD2.out rfl (by omega) HND.out
  rw [HN.out] at hF
  refine hF.mono ?_
  clear hF
  rintro e w3 ⟨v, all, r, rfl, hor, hal, ham, hrk, hk3⟩
  obtain ⟨ro, rc, rfl, hri, -⟩ := hor.ints
  have HRI := Lib.hid hri
  have HAT := Lib.hid (all_true HF.out hal hrk HN.out K)
  have HWO := Lib.hid (rank_world hal ham hrk)
  have HK3 := Lib.hid (HK2.out.trans hk3)
  have HB3 := Lib.hid (HB2.out.kept hk3)
  have HD3 := Lib.hid (HD2.out.kept hk3)
  have HSH3 := Lib.hid (HSH.out.kept hk3)
  clear hor hri hal ham hrk hk3 HB2 HD2 HSH
  go_wp2_with fail
  refine (seen_any sh so sc picks po pc w3 HSH3.out (HP.out.kept HK3.out) h5').mono ?_
  rintro e w4 ⟨v, rfl, hov, hk4⟩
  obtain ⟨tso, tc, rfl, hts⟩ := hov.obss
  have HTS := Lib.hid hts
  have HK4 := Lib.hid (HK3.out.trans hk4)
  have HB4 := Lib.hid (HB3.out.kept hk4)
  have HD4 := Lib.hid (HD3.out.kept hk4)
  have HRI4 := Lib.hid (HRI.out.kept hk4)
  clear hov hts hk4 HB3 HD3 HSH3 HRI
  generalize seenF sh picks = s at *
  have HSL := Lib.hid HF.out.len
  obtain ⟨q0, q1, q2⟩ := HB4.out
  have qb := lt_of_cell q0
  go_wp2_with fail
  clear q0 q1 q2 qb
  refine (RCheck_any o.N s tso tc w4 HF.out.right (by have := HSL.out; omega) (by have := HN.out; omega) HTS.out).mono ?_
  rintro e w5 ⟨rfl, hk5⟩
  have HK5 := Lib.hid (HK4.out.trans hk5)
  have HB5 := Lib.hid (HB4.out.kept hk5)
  have HD5 := Lib.hid (HD4.out.kept hk5)
  have HRI5 := Lib.hid (HRI4.out.kept hk5)
  have HTS5 := Lib.hid (HTS.out.kept hk5)
  clear hk5 HB4 HD4 HRI4 HTS
  obtain ⟨q0, q1, q2⟩ := HB5.out
  have qb := lt_of_cell q0
  go_wp2_with fail
  clear q0 q1 q2 qb
  have hF := CheckWorld_any d.length s tso tc K r ro rc w5 (by omega) (by rw [HN.out]; exact HF.out.right) (by have := HSL.out; omega) HTS5.out HWO.out HRI5.out
  rw [HN.out, HAT.out] at hF
  refine hF.mono ?_
  clear hF
  rintro e w6 ⟨rfl, hk6⟩
  have HK6 := Lib.hid (HK5.out.trans hk6)
  have HB6 := Lib.hid (HB5.out.kept hk6)
  have HD6 := Lib.hid (HD5.out.kept hk6)
  have HTS6 := Lib.hid (HTS5.out.kept hk6)
  clear hk6 HB5 HD5 HRI5 HTS5
  go_wp2_with fail
  go_loopw [22] (fun av wr => ∃ a : Nat, 1 ≤ a ∧ a ≤ d.length + 1 ∧ av = .int .i64 a ∧ Kept w6 wr) (fun av _ => d.length + 1 - (intOf av).toNat)
  case atStart => exact ⟨1, by omega, by omega, rfl, Kept.refl _⟩
  case round =>
    obtain ⟨a, ha1, ha2, rfl, hkr⟩ := hrel
    have HKR := Lib.hid hkr
    clear hkr
    obtain ⟨q0, q1, q2⟩ := HB6.out.kept HKR.out
    have qb := lt_of_cell q0
    rw [show o.N = (d.length : Int) from HN.out.symm] at q0
    by_cases hat : a ≤ d.length
    case neg =>
      go_wp2_with fail
      clear q0 q1 q2 qb
      refine (read_any wr).mono ?_
      rintro e w7 ⟨rfl, hk7⟩
      have HK7 := Lib.hid (HK6.out.trans (HKR.out.trans hk7))
      clear hk7
      go_wp2
      go_ret
      exact ⟨rfl, HK7.out⟩
    go_wp2_with fail
    clear q0 q1 q2 qb
    go_loopw [23] (fun bv wr => ∃ b : Nat, 1 ≤ b ∧ b ≤ d.length + 1 ∧ bv = .int .i64 b ∧ Kept w6 wr) (fun bv _ => d.length + 1 - (intOf bv).toNat)
    case atStart => exact ⟨1, by omega, by omega, rfl, HKR.out⟩
    case round =>
      clear HKR
      obtain ⟨b, hb1, hb2, rfl, hkr⟩ := hrel
      have HKR := Lib.hid hkr
      clear hkr
      obtain ⟨q0, q1, q2⟩ := HB6.out.kept HKR.out
      have qb := lt_of_cell q0
      rw [show o.N = (d.length : Int) from HN.out.symm] at q0
      by_cases hbt : b ≤ d.length
      case neg =>
        go_wp2
        go_roundw
        case measure => simp [intOf]; omega
        case rel => exact ⟨a + 1, by omega, by omega, by go_num, HKR.out⟩
      by_cases hab : a = b
      case pos =>
        have heq : ((a : Int) == (b : Int)) = true := by simp [hab]
        have HAB := Lib.hid hab
        clear hab
        go_wp2
        go_roundw
        case measure => simp [intOf]; omega
        case rel => exact ⟨b + 1, by omega, by omega, by go_num, HKR.out⟩
      have heq : ((a : Int) == (b : Int)) = false := by simp; omega
      go_wp2_with fail
      clear q0 q1 q2 qb
      refine (Read_any d.length s tso tc K a b (dayOf d) wr (by omega) (by rw [HN.out]; exact HF.out.right) (by have := HSL.out; omega) (HTS6.out.kept HKR.out) (HF.out.so K) (by omega) (by omega) hab).mono ?_
      rintro e w7 ⟨k, re, st, rfl, hkk, hwo, hk7⟩
      have HK7 := Lib.hid (HKR.out.trans hk7)
      have HHO : Hid (∀ wx : World, Calls Try.prog 13 #[.int .u8 k, .int .i64 (dayOf d a), .int .i64 (dayOf d b)] wx (Tells (.bool true) wx)) := Lib.hid (by
        intro wx
        rw [hkk]
        exact holds_any _ _ _ _ wx (hwo.sound (dayOf d) (HF.out.so K) a b) (hwo.sound (dayOf d) (HF.out.so K) b a))
      clear hk7 hwo heq hkk re st
      obtain ⟨p, hp⟩ : ∃ p, a - 1 = p := ⟨_, rfl⟩
      obtain ⟨q, hq⟩ : ∃ q, b - 1 = q := ⟨_, rfl⟩
      have hwp : IntKind.i64.wrap ((a : Int) - 1) = (p : Int) := by rw [IntWalk.i64_in _ (by omega)]; omega
      have hwq : IntKind.i64.wrap ((b : Int) - 1) = (q : Int) := by rw [IntWalk.i64_in _ (by omega)]; omega
      have hpl : p < d.length := by omega
      have hql : q < d.length := by omega
      obtain ⟨db, doff, e, cp⟩ := (HD6.out.kept HK7.out) p hpl
      obtain ⟨db', doff', e', cq⟩ := (HD6.out.kept HK7.out) q hql
      rw [e] at e'
      simp only [Option.some.injEq, Addr.mk.injEq] at e'
      obtain ⟨rfl, rfl, -⟩ := e'
      subst e
      have hdbl := lt_of_cell cp
      have HDP : Hid (dayOf d a = d[p]) := Lib.hid (by unfold dayOf; rw [show ((a : Int) - 1).toNat = p by omega]; exact getD_get hpl)
      have HDQ : Hid (dayOf d b = d[q]) := Lib.hid (by unfold dayOf; rw [show ((b : Int) - 1).toNat = q by omega]; exact getD_get hql)
      generalize d[p] = x at *
      generalize d[q] = y at *
      rw [HDP.out, HDQ.out] at HHO
      clear hp hq HDP HDQ
      go_wp2_with fail
      refine region_tail 16 (by kernel_rfl) (by kernel_rfl) ?_
      simp only [List.take_succ_cons, List.take_zero, List.drop_succ_cons, List.drop_zero]
      iterate 14
        with_reducible refine wpStill_want ?_ (fun K hK => ?_)
        · rfl
        go_simp
        refine hK _ ?_
        clear hK K
      still_call Calls_still (HHO.out _)
      iterate 1
        with_reducible refine wpStill_want ?_ (fun K hK => ?_)
        · rfl
        go_simp
        refine hK _ ?_
        clear hK K
      refine wpStill_nil ?_
      go_wp2
      go_roundw
      case measure => simp [intOf]; omega
      case rel => exact ⟨b + 1, by omega, by omega, by go_num, HK7.out.drew⟩
end Go.Proofs.Ytgmodcipbklejaa
