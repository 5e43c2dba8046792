/- slim, CheckOrder, CheckCircle. -/
import Derived.Test.YteljjkghjbofnaaXf
import Derived.Test.YteljjkghjbofnaaPg
set_option maxRecDepth 100000
namespace Go.Proofs.Yteljjkghjbofnaa
open Go Go.Proofs Go.RowKit
attribute [local go_sem] Oper.semAt_some

def slimB (o : Prob) : Bool := decide (o.arcs.length ≤ 600) && decide (o.near.length ≤ 300)
set_option maxHeartbeats 400000 in
theorem slim_any (o : Prob) (ao bo : Option Addr) (ca cb : Nat) (w : World) : Calls Try.prog 22 #[probV o ao ca bo cb] w (Gives (.bool (slimB o)) w) := by
  have hd1 : decide ((o.arcs.length : Int) ≤ 600) = decide (o.arcs.length ≤ 600) := by
    by_cases h : o.arcs.length ≤ 600
    · rw [decide_eq_true h]; exact decide_eq_true (by omega)
    · rw [decide_eq_false h]; exact decide_eq_false (by omega)
  have hd2 : decide ((o.near.length : Int) ≤ 300) = decide (o.near.length ≤ 300) := by
    by_cases h : o.near.length ≤ 300
    · rw [decide_eq_true h]; exact decide_eq_true (by omega)
    · rw [decide_eq_false h]; exact decide_eq_false (by omega)
  unfold slimB
  cases h1 : decide (o.arcs.length ≤ 600)
  · rw [h1] at hd1
    clear hd2 h1
    go_enter Try.func22, Try.ntmps22
    go_wp2
    go_ret
    exact ⟨rfl, (Kept.refl w).alloc _⟩
  · rw [h1] at hd1
    clear h1
    go_enter Try.func22, Try.ntmps22
    go_wp2
    go_ret
    exact ⟨rfl, (Kept.refl w).alloc _⟩

def CheckOrderR (o : Prob) (l : List Int) : Bool × Int := if chk o = 0 then (orderedB (webOf o) l, 0) else (false, chk o)
set_option maxHeartbeats 400000 in
theorem CheckOrder_any (o : Prob) (ao bo : Option Addr) (ca cb : Nat) (l : List Int) (lo : Option Addr) (c : Nat) (w : World) (ho : IsProb w o ao bo) (hl : Ints w lo l) (hll : l.length < 1152921504606846976) :
    Calls Try.prog 39 #[probV o ao ca bo cb, .slice lo l.length c] w (Gives (.tuple #[.bool (CheckOrderR o l).1, .int .i64 (CheckOrderR o l).2]) w) := by
  have HO := Lib.hid ho
  have HL := Lib.hid hl
  clear ho hl
  by_cases h : chk o = 0
  · have hr : CheckOrderR o l = (orderedB (webOf o) l, 0) := by unfold CheckOrderR; rw [if_pos h]
    rw [hr]
    have H := Lib.hid h
    clear hr h
    go_enter Try.func39, Try.ntmps39
    go_wp2_with fail
    obtain ⟨w0, e0, hk0, hb0, -⟩ := alloc_prob w o.N o.arcs o.near ao ca bo cb
    rw [e0]
    clear e0
    have HK0 := Lib.hid hk0
    clear hk0 hb0
    refine (open_ok o ao bo ca cb w0 (HO.out.kept HK0.out) H.out).mono ?_
    rintro e w1 ⟨b, rfl, hw1, hk1⟩
    have HW1 := Lib.hid hw1
    have HK1 := Lib.hid (HK0.out.trans hk1)
    clear hw1 hk1
    go_wp2_with fail
    refine (ordered_any b (webOf o) l lo c _ HW1.out (webOf_n H.out) (HL.out.kept HK1.out) hll).mono ?_
    rintro e w2 ⟨rfl, rfl⟩
    go_wp2
    go_ret2
    exact ⟨rfl, HK1.out⟩
  · have hr : CheckOrderR o l = (false, chk o) := by unfold CheckOrderR; rw [if_neg h]
    rw [hr]
    have H := Lib.hid h
    have hb : (chk o != 0) = true := by simp [h]
    clear hr h
    go_enter Try.func39, Try.ntmps39
    go_wp2_with fail
    obtain ⟨w0, e0, hk0, hb0, -⟩ := alloc_prob w o.N o.arcs o.near ao ca bo cb
    rw [e0]
    clear e0
    have HK0 := Lib.hid hk0
    clear hk0 hb0
    refine (open_bad o ao bo ca cb w0 (HO.out.kept HK0.out) H.out).mono ?_
    rintro e w1 ⟨rfl, hk1⟩
    have HK1 := Lib.hid (HK0.out.trans hk1)
    clear hk1
    go_wp2
    go_ret2
    exact ⟨rfl, HK1.out⟩

/-- The arcs of a list, each patch with the next one. -/
def arcsB (W : Web) (l : List Int) (k : Nat) : Bool := (List.range k).all fun i => hasS (W.to (l.getD i 0).toNat) (l.getD ((i + 1) % l.length) 0).toNat
def CheckCircleR (o : Prob) (l : List Int) : Bool := decide (chk o = 0) && decide (2 ≤ l.length) && eachB (webOf o).n l && arcsB (webOf o) l l.length

theorem arcsB_false {W : Web} {l : List Int} {k n : Nat} (hk : k ≤ n) (h : arcsB W l k = false) : arcsB W l n = false := by
  unfold arcsB at *
  rw [List.all_eq_false] at *
  obtain ⟨x, hx, h⟩ := h
  exact ⟨x, List.mem_range.2 (by have := List.mem_range.1 hx; omega), h⟩
theorem rem_fact1 {k n : Nat} (hk : k < n) (hn : n < 1152921504606846976) : IntKind.i64.wrap ((k : Int) + 1) = (((k + 1 : Nat)) : Int) := by
  rw [IntWalk.i64_in _ (by omega)]; rfl
theorem rem_fact2 {k n : Nat} (h0 : 0 < n) (hn : n < 1152921504606846976) : IntKind.i64.wrap ((((k + 1 : Nat)) : Int).tmod (n : Int)) = (((k + 1) % n : Nat) : Int) := by
  have h : (((k + 1 : Nat)) : Int).tmod (n : Int) = (((k + 1) % n : Nat) : Int) := rfl
  rw [h]
  have := Nat.mod_lt (k + 1) h0
  exact IntWalk.i64_in _ (by omega)

set_option maxHeartbeats 1600000 in
theorem CheckCircle_any (o : Prob) (ao bo : Option Addr) (ca cb : Nat) (l : List Int) (lo : Option Addr) (c : Nat) (w : World) (ho : IsProb w o ao bo) (hl : Ints w lo l) (hll : l.length < 1152921504606846976) :
    Calls Try.prog 36 #[probV o ao ca bo cb, .slice lo l.length c] w (Gives (.bool (CheckCircleR o l)) w) := by
  have HO := Lib.hid ho
  have HL := Lib.hid hl
  clear ho hl
  by_cases h : chk o = 0
  · have H := Lib.hid h
    have hr : CheckCircleR o l = (decide (2 ≤ l.length) && eachB (webOf o).n l && arcsB (webOf o) l l.length) := by unfold CheckCircleR; rw [decide_eq_true h]; rfl
    rw [hr]
    clear hr h
    go_enter Try.func36, Try.ntmps36
    go_wp2_with fail
    obtain ⟨w0, e0, hk0, hb0, -⟩ := alloc_prob w o.N o.arcs o.near ao ca bo cb
    rw [e0]
    clear e0
    have HK0 := Lib.hid hk0
    clear hk0 hb0
    refine (open_ok o ao bo ca cb w0 (HO.out.kept HK0.out) H.out).mono ?_
    rintro e w1 ⟨b, rfl, hw1, hk1⟩
    have HW1 := Lib.hid hw1
    have HK1 := Lib.hid (HK0.out.trans hk1)
    have hn := webOf_n H.out
    clear hw1 hk1
    by_cases h2 : 2 ≤ l.length
    · have hd : decide ((l.length : Int) < 2) = false := decide_eq_false (by omega)
      go_wp2_with fail
      refine (each_any b (webOf o) l lo c _ HW1.out hn (HL.out.kept HK1.out) hll).mono ?_
      rintro e w2 ⟨rfl, rfl⟩
      cases he : eachB (webOf o).n l
      · have HT : Hid (false = (decide (2 ≤ l.length) && eachB (webOf o).n l && arcsB (webOf o) l l.length)) := Lib.hid (by rw [he]; simp)
        simp -failIfUnchanged only []
        go_wp2
        go_ret
        exact ⟨ret_bool HT.out, HK1.out⟩
      · have hin : ∀ p ∈ l, 0 ≤ p ∧ p < ((webOf o).n : Int) := (of_decide_eq_true he).1
        have HT : Hid ((decide (2 ≤ l.length) && eachB (webOf o).n l && arcsB (webOf o) l l.length) = arcsB (webOf o) l l.length) := Lib.hid (by rw [decide_eq_true h2, he]; rfl)
        have HIN := Lib.hid hin
        clear he hin
        generalize hWW : webOf o = W at *
        have HWW := Lib.hid hWW
        clear hWW
        go_wp2
        go_loopw [29] (fun i wr => ∃ k : Nat, k ≤ l.length ∧ i = .int .i64 k ∧ arcsB W l k = true ∧ Kept w1 wr) (fun i _ => l.length - (intOf i).toNat)
        case atStart => exact ⟨0, Nat.zero_le _, rfl, rfl, Kept.refl w1⟩
        case round =>
          obtain ⟨k, hk, rfl, ha, hkw⟩ := hrel
          have HA := Lib.hid ha
          have HKW := Lib.hid hkw
          clear ha hkw
          by_cases hlt : k < l.length
          · obtain ⟨p, hp1, hpn, hp2⟩ := getD_nat HIN.out hlt
            have hm : (k + 1) % l.length < l.length := Nat.mod_lt _ (by omega)
            obtain ⟨q, hq1, hqn, hq2⟩ := getD_nat HIN.out hm
            obtain ⟨B, off, rfl, hc1⟩ := ((HL.out.kept HK1.out).kept HKW.out) k hlt
            obtain ⟨B', off', e', hc2⟩ := ((HL.out.kept HK1.out).kept HKW.out) ((k + 1) % l.length) hm
            simp only [Option.some.injEq, Addr.mk.injEq] at e'
            obtain ⟨rfl, rfl, -⟩ := e'
            rw [hp2] at hc1
            rw [hq2] at hc2
            have hto := (HW1.out.kept HKW.out).to p (by omega)
            have hpi : (p : Int) < 24 := by omega
            have hq32 : q < 32 := by omega
            have hki : (k : Int) < l.length := by omega
            have hmi : (((k + 1) % l.length : Nat) : Int) < l.length := by omega
            have hw1 : IntKind.i64.wrap ((k : Int) + 1) = (((k + 1 : Nat)) : Int) := rem_fact1 hlt hll
            have hrem : ((k : Int) + 1).tmod (l.length : Int) = (((k + 1) % l.length : Nat) : Int) := rfl
            have hne : l ≠ [] := fun h => by rw [h] at hlt; exact absurd hlt (Nat.not_lt_zero _)
            have HS : Hid (arcsB W l (k + 1) = hasS (W.to p) q) := by
              show _ = _
              unfold arcsB
              rw [List.range_succ, List.all_append]
              have := HA.out
              unfold arcsB at this
              rw [this, Bool.true_and, List.all_cons, List.all_nil, Bool.and_true, hp1, hq1, Int.toNat_natCast, Int.toNat_natCast]
            clear hp1 hp2 hq1 hq2
            generalize (k + 1) % l.length = m at *
            go_wp2
            refine region_tail 14 (by kernel_rfl) (by kernel_rfl) ?_
            simp only [List.take_succ_cons, List.take_zero, List.drop_succ_cons, List.drop_zero]
            iterate 14 still_step
            with_reducible refine wpStill_nil ?_
            go_wp2_with fail
            refine (has_any (W.to p) q _ hq32).mono ?_
            rintro e w2 ⟨rfl, rfl⟩
            cases hh : hasS (W.to p) q
            all_goals
              have HH := Lib.hid hh
              clear hh
              go_wp2
            · go_ret
              refine ⟨ret_bool ?_, (HK1.out.trans HKW.out).drew⟩
              have hq := HT.out
              rw [hq]
              exact (arcsB_false (by omega) (HS.out.trans HH.out)).symm
            · go_roundw
              case measure => simp [intOf]; omega
              case rel => exact ⟨k + 1, by omega, by go_num, HS.out.trans HH.out, HKW.out.drew⟩
          · have hk2 : k = l.length := by omega
            have HK := Lib.hid hk2
            clear hk2
            go_wp2
            go_ret
            exact ⟨ret_bool (by have hq := HT.out; have ha := HA.out; rw [HK.out] at ha; rw [hq, ha]), HK1.out.trans HKW.out⟩
    · have hd : decide ((l.length : Int) < 2) = true := decide_eq_true (by omega)
      have HT : Hid (false = (decide (2 ≤ l.length) && eachB (webOf o).n l && arcsB (webOf o) l l.length)) := Lib.hid (by rw [decide_eq_false h2]; rfl)
      go_wp2
      go_ret
      exact ⟨ret_bool HT.out, HK1.out⟩
  · have hr : CheckCircleR o l = false := by unfold CheckCircleR; rw [decide_eq_false h]; rfl
    rw [hr]
    have H := Lib.hid h
    have hb : (chk o != 0) = true := by simp [h]
    clear hr h
    go_enter Try.func36, Try.ntmps36
    go_wp2_with fail
    obtain ⟨w0, e0, hk0, hb0, -⟩ := alloc_prob w o.N o.arcs o.near ao ca bo cb
    rw [e0]
    clear e0
    have HK0 := Lib.hid hk0
    clear hk0 hb0
    refine (open_bad o ao bo ca cb w0 (HO.out.kept HK0.out) H.out).mono ?_
    rintro e w1 ⟨rfl, hk1⟩
    have HK1 := Lib.hid (HK0.out.trans hk1)
    clear hk1
    go_wp2
    go_ret
    exact ⟨rfl, HK1.out⟩
end Go.Proofs.Yteljjkghjbofnaa
