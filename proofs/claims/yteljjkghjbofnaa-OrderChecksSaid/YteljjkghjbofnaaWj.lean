/- SameInts, slices.Index, Standing. -/
import Derived.Test.YteljjkghjbofnaaWi
set_option maxRecDepth 100000
namespace Go.Proofs.Yteljjkghjbofnaa
open Go Go.Proofs Go.RowKit

theorem take_eq_of_ne {α : Type} [DecidableEq α] {la lb : List α} {k : Nat} (ha : k < la.length) (hb : k < lb.length) (h : la[k] ≠ lb[k]) : decide (la = lb) = false := by
  rw [decide_eq_false_iff_not]
  rintro rfl
  exact h rfl
theorem take_succ_eq {α : Type} {la lb : List α} {k : Nat} (ha : k < la.length) (hb : k < lb.length) (h : la[k] = lb[k]) (ht : la.take k = lb.take k) : la.take (k + 1) = lb.take (k + 1) := by
  rw [List.take_succ_eq_append_getElem ha, List.take_succ_eq_append_getElem hb, ht, h]

set_option maxHeartbeats 800000 in
theorem SameInts_any (la lb : List Int) (ao bo : Option Addr) (ca cb : Nat) (w : World) (ha : Ints w ao la) (hb : Ints w bo lb) (hla : la.length < 1152921504606846976) (hlb : lb.length < 1152921504606846976) :
    Calls Try.prog 30 #[.slice ao la.length ca, .slice bo lb.length cb] w (Gives (.bool (decide (la = lb))) w) := by
  by_cases hlen : la.length = lb.length
  · have hb0 : ((la.length : Int) != (lb.length : Int)) = false := by simp [hlen]
    have HLEN := Lib.hid hlen
    have HA := Lib.hid ha
    have HB := Lib.hid hb
    clear hlen ha hb
    go_enter Try.func30, Try.ntmps30
    go_wp2
    clear hb0
    go_loopw [5] (fun i wr => ∃ k : Nat, k ≤ la.length ∧ i = .int .i64 k ∧ la.take k = lb.take k ∧ Kept w wr) (fun i _ => la.length - (intOf i).toNat)
    case atStart => exact ⟨0, Nat.zero_le _, rfl, by simp, Kept.refl w⟩
    case round =>
      obtain ⟨k, hk, rfl, ht, hkw⟩ := hrel
      have HT := Lib.hid ht
      have HKW := Lib.hid hkw
      clear ht hkw
      by_cases hlt : k < la.length
      · have hlt2 : k < lb.length := by have := HLEN.out; omega
        obtain ⟨B, off, rfl, hc⟩ := (HA.out.kept HKW.out) k hlt
        obtain ⟨B2, off2, rfl, hc2⟩ := (HB.out.kept HKW.out) k hlt2
        by_cases he : la[k] = lb[k]
        · have hne : (la[k] != lb[k]) = false := by simp [he]
          have HE := Lib.hid he
          clear he
          have hki : (k : Int) < (la.length : Int) := by omega
          have hki2 : (k : Int) < (lb.length : Int) := by omega
          go_wp2
          refine region_tail 8 (by kernel_rfl) (by kernel_rfl) ?_
          simp only [List.take_succ_cons, List.take_zero, List.drop_succ_cons, List.drop_zero]
          repeat still_step
          refine wpStill_nil ?_
          go_wp2
          go_roundw
          case rel => exact ⟨k + 1, by omega, by go_num, take_succ_eq hlt hlt2 HE.out HT.out, HKW.out.drew⟩
          case measure => simp [intOf]; omega
        · have hne : (la[k] != lb[k]) = true := by simp [he]
          have HE := Lib.hid he
          clear he
          have hki : (k : Int) < (la.length : Int) := by omega
          have hki2 : (k : Int) < (lb.length : Int) := by omega
          go_wp2
          refine region_tail 8 (by kernel_rfl) (by kernel_rfl) ?_
          simp only [List.take_succ_cons, List.take_zero, List.drop_succ_cons, List.drop_zero]
          repeat still_step
          refine wpStill_nil ?_
          go_wp2
          go_ret
          exact ⟨ret_bool (take_eq_of_ne hlt hlt2 HE.out).symm, HKW.out.drew⟩
      · go_wp2
        go_ret
        refine ⟨ret_bool ?_, HKW.out⟩
        have h := HT.out
        rw [List.take_of_length_le (by omega), List.take_of_length_le (by have := HLEN.out; omega)] at h
        rw [h]; simp
  · have hb0 : ((la.length : Int) != (lb.length : Int)) = true := by simp; omega
    have HLEN := Lib.hid hlen
    clear hlen ha hb
    go_enter Try.func30, Try.ntmps30
    go_wp2
    go_ret
    refine ⟨ret_bool ?_, Kept.refl w⟩
    rw [Eq.comm, decide_eq_false_iff_not]
    rintro rfl
    exact HLEN.out rfl

theorem idxOf_getElem_le (l : List Int) : ∀ (k : Nat) (h : k < l.length), l.idxOf l[k] ≤ k := by
  induction l with
  | nil => intro k h; simp at h
  | cons x l ih =>
    intro k h
    cases k with
    | zero => simp
    | succ k =>
      have := ih k (by simpa using h)
      simp only [List.getElem_cons_succ, List.idxOf_cons]
      have hk : k < l.length := by simpa using h
      cases x == l[k] <;> simp <;> omega

/-- slices.Index at numbers: the first place at which v stands, if it stands there. -/
theorem Index_any (l : List Int) (ao : Option Addr) (c : Nat) (v : Int) (w : World) (hl : l.length < 1152921504606846976) (hp : Ints w ao l) (hv : v ∈ l) :
    Calls Try.prog 95 #[.slice ao l.length c, .int .i64 v] w (Tells (.int .i64 (l.idxOf v : Nat)) w) := by
  have hlt0 := List.idxOf_lt_length_of_mem hv
  have HV := Lib.hid hlt0
  clear hv hlt0
  go_enter Try.func95, Try.ntmps95
  go_wp2
  go_loop [8] (fun i => ∃ k : Nat, k ≤ l.idxOf v ∧ i = .int .i64 k) (fun i => l.length - (intOf i).toNat)
  case atStart => exact ⟨0, Nat.zero_le _, rfl⟩
  case round =>
    obtain ⟨k, hk, rfl⟩ := hrel
    have hlt : k < l.length := by have := HV.out; omega
    obtain ⟨B, off, rfl, hc⟩ := hp k hlt
    have HP := Lib.hid hp
    clear hp
    by_cases he : v = l[k]
    · have hb : (v == l[k]) = true := by simp [he]
      have HE := Lib.hid he
      clear he
      go_wp2
      go_ret
      refine ⟨ret_int ?_, rfl⟩
      have h1 : l.idxOf v ≤ k := by
        rw [HE.out]
        exact idxOf_getElem_le l k hlt
      omega
    · have hb : (v == l[k]) = false := by simp [he]
      have hk1 : k + 1 ≤ l.idxOf v := by
        rcases Nat.lt_or_ge k (l.idxOf v) with h | h
        · exact h
        · exfalso
          have e : l.idxOf v = k := by omega
          have h2 := List.getElem_idxOf (x := v) (xs := l) HV.out
          simp only [e] at h2
          exact he h2.symm
      have HK1 := Lib.hid hk1
      clear he hk1
      go_wp2
      go_round
      case rel => exact ⟨k + 1, HK1.out, by go_num⟩
      case measure => simp [intOf]; omega

/-! ### Standing -/

/-- The standing of a to b in a web. -/
def standW (W : Web) (a b : Nat) : Int := if hasS (W.reach a) b then (if hasS (W.reach b) a then 3 else 1) else (if hasS (W.reach b) a then 2 else 0)
def standP (o : Prob) (a b : Int) : Int :=
  if chk o = 0 ∧ (0 ≤ a ∧ a < o.N) ∧ (0 ≤ b ∧ b < o.N) ∧ a ≠ b then standW (webOf o) a.toNat b.toNat else 0

set_option maxHeartbeats 1600000 in
theorem Standing_any (o : Prob) (ao bo : Option Addr) (ca cb : Nat) (a b : Int) (w : World) (ho : IsProb w o ao bo) :
    Calls Try.prog 24 #[probV o ao ca bo cb, .int .i64 a, .int .i64 b] w (Gives (.int .u8 (standP o a b)) w) := by
  have HO := Lib.hid ho
  clear ho
  by_cases hc : chk o = 0
  · have HC := Lib.hid hc
    have H24 := Lib.hid (webOf_n hc)
    have hN : (((webOf o).n : Nat) : Int) = o.N := by have := (pair_of_chk hc).1; unfold webOf; simp; omega
    have HN := Lib.hid hN
    clear hc hN
    go_enter Try.func24, Try.ntmps24
    go_wp2_with fail
    obtain ⟨w0, e0, hk0, hb0, -⟩ := alloc_prob w o.N o.arcs o.near ao ca bo cb
    rw [e0]
    clear e0
    have HK0 := Lib.hid hk0
    clear hk0 hb0
    refine (open_ok o ao bo ca cb w0 (HO.out.kept HK0.out) HC.out).mono ?_
    rintro e w1 ⟨p, rfl, hw1, hk1⟩
    have HW1 := Lib.hid hw1
    have HK1 := Lib.hid (HK0.out.trans hk1)
    clear hw1 hk1
    go_wp2_with fail
    refine (is_any p (webOf o) a _ HW1.out).mono ?_
    rintro e w2 ⟨rfl, rfl⟩
    rw [HN.out]
    cases ha : (decide (0 ≤ a) && decide (a < o.N))
    · have HA := Lib.hid ha
      clear ha
      go_wp2
      go_ret
      refine ⟨ret_int ?_, HK1.out⟩
      unfold standP
      rw [if_neg]
      rintro ⟨_, h, _⟩
      have h' := HA.out
      simp at h'
      omega
    · have HA := Lib.hid ha
      clear ha
      go_wp2_with fail
      refine (is_any p (webOf o) b _ HW1.out).mono ?_
      rintro e w2 ⟨rfl, rfl⟩
      rw [HN.out]
      cases hb : (decide (0 ≤ b) && decide (b < o.N))
      · have HB := Lib.hid hb
        clear hb
        go_wp2
        go_ret
        refine ⟨ret_int ?_, HK1.out⟩
        unfold standP
        rw [if_neg]
        rintro ⟨_, _, h, _⟩
        have h' := HB.out
        simp at h'
        omega
      · have hA := HA.out
        simp at hA
        simp at hb
        by_cases hab : a = b
        · have hbb : (a == b) = true := by simp [hab]
          have HAB := Lib.hid hab
          clear hab hb hA
          go_wp2
          go_ret
          refine ⟨ret_int ?_, HK1.out⟩
          unfold standP
          rw [if_neg]
          rintro ⟨_, _, _, h⟩
          exact h HAB.out
        · have hbb : (a == b) = false := by simp [hab]
          have hst : standP o a b = standW (webOf o) a.toNat b.toNat := by unfold standP; rw [if_pos ⟨HC.out, hA, hb, hab⟩]
          obtain ⟨x, rfl⟩ := Int.eq_ofNat_of_zero_le hA.1
          obtain ⟨y, rfl⟩ := Int.eq_ofNat_of_zero_le hb.1
          rw [Int.toNat_natCast, Int.toNat_natCast] at hst
          have HSTD := Lib.hid hst
          have hn := H24.out
          have hx24 : x < 24 := by have := HN.out; omega
          have hy24 : y < 24 := by have := HN.out; omega
          have hxi : (x : Int) < 24 := by omega
          have hyi : (y : Int) < 24 := by omega
          have hrx := HW1.out.reach x hx24
          have hry := HW1.out.reach y hy24
          clear hst hab hb hA HA
          go_wp2
          refine region_tail 16 (by kernel_rfl) (by kernel_rfl) ?_
          simp only [List.take_succ_cons, List.take_zero, List.drop_succ_cons, List.drop_zero]
          repeat still_step
          still_call Calls_still (has_any _ y _ (by omega))
          repeat still_step
          still_call Calls_still (has_any _ x _ (by omega))
          refine wpStill_nil ?_
          cases h1 : hasS ((webOf o).reach x) y
          all_goals cases h2 : hasS ((webOf o).reach y) x
          all_goals
            have H1 := Lib.hid h1
            have H2 := Lib.hid h2
            clear h1 h2
            go_wp2
            go_ret
            refine ⟨ret_int (Eq.symm ?_), HK1.out.drew⟩
            rw [HSTD.out]
            unfold standW
            rw [H1.out, H2.out]
            rfl
  · have HC := Lib.hid hc
    have hb : (chk o != 0) = true := by simp [hc]
    clear hc
    go_enter Try.func24, Try.ntmps24
    go_wp2_with fail
    obtain ⟨w0, e0, hk0, hb0, -⟩ := alloc_prob w o.N o.arcs o.near ao ca bo cb
    rw [e0]
    clear e0
    have HK0 := Lib.hid hk0
    clear hk0 hb0
    refine (open_bad o ao bo ca cb w0 (HO.out.kept HK0.out) HC.out).mono ?_
    rintro e w1 ⟨rfl, hk1⟩
    have HK1 := Lib.hid (HK0.out.trans hk1)
    clear hk1
    go_wp2
    go_ret
    exact ⟨ret_int (by simp [standP, HC.out]), HK1.out⟩

end Go.Proofs.Yteljjkghjbofnaa
