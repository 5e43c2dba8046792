/- ref.Rank. -/
import Derived.Test.YteljjkghjbofnaaUa
set_option maxRecDepth 100000
namespace Go.Proofs.Yteljjkghjbofnaa
open Go Go.Proofs Go.RowKit
attribute [local go_sem] Oper.semAt_some

theorem shl_one' (a : Nat) (ha : a < 12) : wrap64 ((2 : Int) ^ a) = ((2 ^ a : Nat) : Int) := by
  have h := shl_one a ha
  rw [IntWalk.u64_in _ (by omega), Int.toNat_natCast, Nat.min_eq_left (by omega)] at h
  exact h
/-- The orders that go on from d with a patch before a, added to n. -/
def rankSum (W : Web) (d : S) (n : Int) (a : Nat) : Int := ((List.range a).filter (readyB W d)).foldl (fun s p => wrap64 (s + cnt W (d ||| oneS p))) n
theorem rankSum_no {W : Web} {d : S} {n : Int} {a : Nat} (h : readyB W d a = false) : rankSum W d n (a + 1) = rankSum W d n a := by
  unfold rankSum
  rw [List.range_succ, List.filter_append, List.filter_cons, if_neg (by rw [h]; simp)]; simp
theorem rankSum_yes {W : Web} {d : S} {n : Int} {a : Nat} (h : readyB W d a = true) : rankSum W d n (a + 1) = wrap64 (rankSum W d n a + cnt W (d ||| oneS a)) := by
  unfold rankSum
  rw [List.range_succ, List.filter_append, List.filter_cons, if_pos h, List.foldl_append]; rfl
def rankAt (W : Web) (l : List Int) : Nat → Int
  | 0 => 0
  | i + 1 => rankSum W (setS (l.take i)) (rankAt W l i) (l.getD i 0).toNat
def RankR (o : Prob) (l : List Int) : Int × Int := if errC o = 0 then (if orderedB (webOf o) l = true then (rankAt (webOf o) l l.length, 0) else (0, 1)) else (0, errC o)

set_option maxHeartbeats 2000000 in
theorem RRank_any (o : Prob) (ao bo : Option Addr) (ca cb : Nat) (l : List Int) (lo : Option Addr) (c : Nat) (w : World) (ho : IsProb w o ao bo) (hl : Ints w lo l) (hll : l.length < 1152921504606846976) (hlc : l.length ≤ c) :
    Calls Try.prog 52 #[probV o ao ca bo cb, .slice lo l.length c] w (Gives (.tuple #[.int .i64 (RankR o l).1, .int .i64 (RankR o l).2]) w) := by
  have HO := Lib.hid ho
  have HL := Lib.hid hl
  clear ho hl
  obtain ⟨r1, hr1⟩ : ∃ r, (RankR o l).1 = r := ⟨_, rfl⟩
  obtain ⟨r2, hr2⟩ : ∃ r, (RankR o l).2 = r := ⟨_, rfl⟩
  rw [hr1, hr2]
  have HR1 := Lib.hid hr1
  have HR2 := Lib.hid hr2
  clear hr1 hr2
  go_enter Try.func52, Try.ntmps52
  go_wp2_with fail
  obtain ⟨w0, e0, hk0, hb0, hs0⟩ := alloc_prob w o.N o.arcs o.near ao ca bo cb
  rw [e0]
  clear e0
  have HK0 := Lib.hid hk0
  have HB0 := Lib.hid hb0
  clear hk0 hs0
  obtain ⟨q0, q1, q2⟩ := hb0
  have qb := lt_of_cell q0
  go_wp2_with fail
  clear q0 q1 q2 qb
  refine (Rcounted_any o ao bo ca cb w0 (HO.out.kept HK0.out)).mono ?_
  rintro e w1 ⟨rfl, hk⟩
  have HK1 := Lib.hid (HK0.out.trans hk)
  have HB1 := Lib.hid (HB0.out.kept hk)
  clear hk HK0 HB0
  by_cases he : errC o = 0
  · obtain ⟨hc, hn⟩ := errC_ok he
    have HE := Lib.hid he
    have HC := Lib.hid hc
    have HN12 := Lib.hid hn
    have HN := Lib.hid (webOf_nI hc)
    rw [he]
    obtain ⟨q0, q1, q2⟩ := HB1.out
    have qb := lt_of_cell q0
    clear he hc hn
    go_wp2_with fail
    clear q0 q1 q2 qb
    refine (Rordered_any o ao bo ca cb l lo c w1 (HO.out.kept HK1.out) (HL.out.kept HK1.out) hll hlc).mono ?_
    rintro e w2 ⟨rfl, hk⟩
    have HK2 := Lib.hid (HK1.out.trans hk)
    have HB2 := Lib.hid (HB1.out.kept hk)
    clear hk HK1 HB1
    cases hor : orderedR o l
    · have HX : Hid (0 = r1 ∧ 1 = r2) := Lib.hid (by rw [← HR1.out, ← HR2.out]; unfold RankR; rw [if_pos HE.out, if_neg (by rw [← orderedR_eq HC.out, hor]; simp)]; exact ⟨rfl, rfl⟩)
      clear hor
      go_wp2
      go_ret2
      rw [← HX.out.1, ← HX.out.2]
      exact ⟨rfl, HK2.out⟩
    · have HX : Hid (rankAt (webOf o) l l.length = r1 ∧ 0 = r2) := Lib.hid (by rw [← HR1.out, ← HR2.out]; unfold RankR; rw [if_pos HE.out, if_pos (by rw [← orderedR_eq HC.out, hor])]; exact ⟨rfl, rfl⟩)
      have HIN : Hid (∀ i, (h : i < l.length) → 0 ≤ l[i] ∧ l[i] < o.N) := Lib.hid fun i h => by
        have := (orderedR_iff.1 hor).2 i h
        exact ⟨this.1, this.2.1⟩
      clear hor
      obtain ⟨q0, q1, q2⟩ := HB2.out
      have qb := lt_of_cell q0
      go_wp2_with fail
      clear q0 q1 q2 qb
      refine (Rways_any o ao bo ca cb w2 (HO.out.kept HK2.out) HC.out HN12.out).mono ?_
      rintro e w3 ⟨g, rfl, hg, harr, hk⟩
      have HK3 := Lib.hid (HK2.out.trans hk)
      have HB3 := Lib.hid (HB2.out.kept hk)
      have HA3 := Lib.hid harr
      clear hk harr HK2 HB2 hg
      have hm12 : 2 ^ (webOf o).n ≤ 4096 := Nat.pow_le_pow_right (by decide) HN12.out
      have hm0 : 0 < 2 ^ (webOf o).n := Nat.two_pow_pos _
      obtain ⟨m, hm⟩ : ∃ m, 2 ^ (webOf o).n = m := ⟨_, rfl⟩
      rw [hm] at hm12 hm0 HA3 ⊢
      have HM := Lib.hid hm
      have HM12 := Lib.hid hm12
      clear hm hm12
      go_wp2
      go_loopw [9, 10, 11] (fun out sv i wr => ∃ k s : Nat, k ≤ l.length ∧ out = .int .i64 (rankAt (webOf o) l k) ∧ sv = .int .i64 s ∧ s < m ∧ BitVec.ofNat 32 s = setS (l.take k) ∧ i = .int .i64 k ∧ ProbBox wr w.heap.size o ao ca bo cb ∧ Kept w wr ∧ Arr wr g (tabK (webOf o) m 0)) (fun _ _ i _ => l.length - (intOf i).toNat)
      case atStart => exact ⟨0, 0, Nat.zero_le _, rfl, rfl, hm0, rfl, rfl, HB3.out, HK3.out, HA3.out⟩
      case round =>
        clear HB3 HK3 HA3
        obtain ⟨k, s, hk, rfl, rfl, hs, hss, rfl, hb1, hkw, harr⟩ := hrel
        have HKW := Lib.hid hkw
        have HB4 := Lib.hid hb1
        have HAR := Lib.hid harr
        have HS := Lib.hid hs
        have HSS := Lib.hid hss
        clear hkw hb1 harr hs hss
        by_cases hlt : k < l.length
        · have HLT := Lib.hid hlt
          have hin := HIN.out k hlt
          have hx := (HL.out.kept HKW.out) k hlt
          have HNEXT : Hid (rankAt (webOf o) l (k + 1) = rankSum (webOf o) (setS (l.take k)) (rankAt (webOf o) l k) l[k].toNat) := Lib.hid (by
            show rankSum _ _ _ (l.getD k 0).toNat = _
            exact congrArg (fun z : Int => rankSum (webOf o) (setS (l.take k)) (rankAt (webOf o) l k) z.toNat) (getD_mem hlt))
          have HTK : Hid (setS (l.take (k + 1)) = setS (l.take k) ||| oneS l[k].toNat) := Lib.hid (by rw [List.take_succ_eq_append_getElem hlt]; exact setS_snoc _ _)
          generalize l[k] = xi at *
          obtain ⟨x, rfl⟩ : ∃ x : Nat, xi = x := ⟨xi.toNat, by omega⟩
          rw [Int.toNat_natCast] at HNEXT HTK
          obtain ⟨B, off, rfl, hc⟩ := hx
          have HX2 : Hid (x < (webOf o).n) := Lib.hid (by have := HN.out; omega)
          have HCL := Lib.hid hc
          have hlt2 : (l.take k).length = k := by simp; omega
          have HT := Lib.hid hlt2
          have hkc : k ≤ c := by omega
          have hki : (k : Int) ≤ (c : Int) := by omega
          generalize rankAt (webOf o) l k = n0 at *
          clear hin hlt2
          go_wp2
          clear hc
          go_loopw [9, 12] (fun out i wi => ∃ a : Nat, a ≤ x ∧ out = .int .i64 (rankSum (webOf o) (setS (l.take k)) n0 a) ∧ i = .int .i64 a ∧ Kept wr wi) (fun _ i _ => x - (intOf i).toNat)
          case atStart => exact ⟨0, Nat.zero_le _, rfl, rfl, Kept.refl _⟩
          case round =>
            obtain ⟨a, ha, rfl, rfl, hki2⟩ := hrel
            have HKI := Lib.hid hki2
            have HA := Lib.hid ha
            clear ha hki2
            have hc := HKI.out.cell HCL.out
            by_cases hax : a < x
            · have HAX := Lib.hid hax
              have hai : decide ((a : Int) < (x : Int)) = true := decide_eq_true (by omega)
              have HRE : Hid (readyR o (l.take k) (a : Int) = readyB (webOf o) (setS (l.take k)) a) := Lib.hid (readyR_eq HC.out (fun p hp => by
                obtain ⟨i, hi, rfl⟩ := List.mem_iff_getElem.1 (List.mem_of_mem_take hp)
                exact HIN.out i hi) (by have := HX2.out; omega))
              have h12 : a < 12 := by have := HX2.out; have := HN12.out; omega
              clear hax
              go_wp2
              refine region_class (fun Z => Kept wr Z) 6 (by kernel_rfl) (by kernel_rfl) (Kept.refl _).drew ?_
              simp only [List.take_succ_cons, List.take_zero, List.drop_succ_cons, List.drop_zero]
              refine wpQuiet_yield (.agg #[.int .i64 o.N, .slice ao o.arcs.length ca, .slice bo o.near.length cb]) (by rfl) (fun Z hZ => ?_) ?_
              · obtain ⟨q0, q1, q2⟩ := HB4.out.kept (HKI.out.trans hZ)
                have qb := lt_of_cell q0
                go_simp
              simp only [Act.put, List.setIfInBounds_toArray, List.set_cons_zero, List.set_cons_succ]
              refine wpQuiet_yield (.slice (some ⟨B, off, none⟩) l.length c) (by rfl) (fun Z hZ => ?_) ?_
              · go_simp
              simp only [Act.put, List.setIfInBounds_toArray, List.set_cons_zero, List.set_cons_succ]
              refine wpQuiet_yield (.int .i64 k) (by rfl) (fun Z hZ => ?_) ?_
              · go_simp
              simp only [Act.put, List.setIfInBounds_toArray, List.set_cons_zero, List.set_cons_succ]
              refine wpQuiet_yield (.slice (some ⟨B, off, none⟩) k c) (by rfl) (fun Z hZ => ?_) ?_
              · go_simp
              simp only [Act.put, List.setIfInBounds_toArray, List.set_cons_zero, List.set_cons_succ]
              refine wpQuiet_yield (.int .i64 a) (by rfl) (fun Z hZ => ?_) ?_
              · go_simp
              simp only [Act.put, List.setIfInBounds_toArray, List.set_cons_zero, List.set_cons_succ]
              refine wpQuiet_yield (.bool (readyB (webOf o) (setS (l.take k)) a)) (by rfl) (fun Z hZ => ?_) ?_
              · go_simp
                have hF := Rready_any o ao bo ca cb (l.take k) (some ⟨B, off, none⟩) c a Z (HO.out.kept ((HKW.out.trans HKI.out).trans hZ)) ((HL.out.kept ((HKW.out.trans HKI.out).trans hZ)).take k) (by rw [HT.out]; omega)
                rw [HT.out, HRE.out] at hF
                exact hF.mono fun e Z' h => ⟨h.1, hZ.trans h.2⟩
              simp only [Act.put, List.setIfInBounds_toArray, List.set_cons_zero, List.set_cons_succ]
              refine wpQuiet_nil ?_
              intro w4 hk4
              have HK4 := Lib.hid (HKI.out.trans hk4)
              clear hk4 HKI hc
              cases hr : readyB (webOf o) (setS (l.take k)) a
              · have HNO := Lib.hid (rankSum_no (n := n0) hr)
                clear hr
                go_wp2
                go_roundw
                case measure => have := HAX.out; simp [intOf] <;> omega
                case rel => exact ⟨a + 1, HAX.out, by rw [HNO.out], by go_num, HK4.out⟩
              · have HYES := Lib.hid (rankSum_yes (n := n0) hr)
                clear hr
                have han : a < (webOf o).n := by have := HX2.out; have := HAX.out; omega
                have ha12 : a < 12 := by have := HN12.out; omega
                have hs4 : s < 4096 := by have := HS.out; have := HM12.out; omega
                have hshl := shl_one a ha12
                have hshl2 := shl_one' a ha12
                have hor := or_one s a hs4 ha12
                have hs2m : s ||| 2 ^ a < m := by rw [← HM.out]; exact or_bound (by rw [HM.out]; exact HS.out) han
                have HOA := Lib.hid (ofNat_or s a ha12)
                rw [HSS.out] at HOA
                rw [← HOA.out] at HYES
                generalize s ||| 2 ^ a = s2 at *
                generalize 2 ^ a = p2 at *
                have hAr := HAR.out.kept HK4.out
                have hl2 : s2 < (tabK (webOf o) m 0).length := by rw [tabK_len]; exact hs2m
                have v1 := hAr.get s2 hl2
                rw [tabK_get, if_pos (Nat.zero_le _)] at v1
                have vl := hAr.lt
                clear hAr hl2 ha12
                generalize cnt (webOf o) (BitVec.ofNat 32 s2) = c2 at *
                generalize rankSum (webOf o) (setS (l.take k)) n0 a = n1 at *
                go_wp2
                go_roundw
                case measure => have := HAX.out; simp [intOf] <;> omega
                case rel => exact ⟨a + 1, HAX.out, by rw [HYES.out], by go_num, HK4.out⟩
            · obtain rfl : a = x := by have := HA.out; omega
              have hai : decide ((a : Int) < (a : Int)) = false := decide_eq_false (by omega)
              have ha12 : a < 12 := by have := HN12.out; have := HX2.out; omega
              have hs4 : s < 4096 := by have := HS.out; have := HM12.out; omega
              have hshl := shl_one a ha12
              have hshl2 := shl_one' a ha12
              have hor := or_one s a hs4 ha12
              have HS2M : Hid (s ||| 2 ^ a < m) := Lib.hid (by rw [← HM.out]; exact or_bound (by rw [HM.out]; exact HS.out) HX2.out)
              have HOA := Lib.hid (ofNat_or s a ha12)
              rw [HSS.out, ← HTK.out] at HOA
              generalize s ||| 2 ^ a = s2 at *
              generalize 2 ^ a = p2 at *
              clear hax hs4 ha12
              go_wp2
              go_roundw
              case measure => have := HLT.out; simp [intOf]; omega
              case rel => exact ⟨k + 1, s2, HLT.out, by rw [HNEXT.out], rfl, HS2M.out, HOA.out, by go_num, HB4.out.kept HKI.out, HKW.out.trans HKI.out, HAR.out.kept HKI.out⟩
        · obtain rfl : k = l.length := by omega
          clear hlt hk
          go_wp2
          go_ret2
          rw [← HX.out.1, ← HX.out.2]
          exact ⟨rfl, HKW.out⟩
  · have HX : Hid (0 = r1 ∧ errC o = r2) := Lib.hid (by rw [← HR1.out, ← HR2.out]; unfold RankR; rw [if_neg he]; exact ⟨rfl, rfl⟩)
    have e1 : (errC o != 0) = true := by simp [he]
    clear he
    go_wp2
    go_ret2
    rw [← HX.out.1, ← HX.out.2]
    exact ⟨rfl, HK1.out⟩
end Go.Proofs.Yteljjkghjbofnaa
