/- Check at lists of whatever length; what is not valid, to open and Least. -/
import Derived.Test.YteljjkghjbofnaaWf
set_option maxRecDepth 100000
namespace Go.Proofs.Yteljjkghjbofnaa
open Go Go.Proofs Go.RowKit

set_option maxHeartbeats 800000 in
/-- slices.IndexFunc at pairs: whatever function of a pair is handed in, if it answers p wherever nothing of w has turned. -/
theorem indexFuncP_any_b (l : List (Int × Int)) (ao : Option Addr) (c g : Nat) (caps : Array Value) (p : Int × Int → Bool) (w : World) (hl : l.length < 9223372036854775808) (hp : Pairs w ao l)
    (hf : ∀ a b W, Kept w W → Calls Try.prog g (#[.agg #[.int .i64 a, .int .i64 b]] ++ caps) W (Gives (.bool (p (a, b))) W)) (hg : ∀ args W, (callFunc g args).run Try.prog W = .ok (.enter g args) W) :
    Calls Try.prog 140 #[.slice ao l.length c, .func (.func g) #[] caps] w (IdxPost p l w) := by
  have HF := Lib.hid hf
  clear hf
  go_enter Try.func140, Try.ntmps140
  go_wp2
  go_loopw [8] (fun i wr => ∃ k : Nat, k ≤ l.length ∧ i = .int .i64 k ∧ (l.take k).any p = false ∧ Kept w wr) (fun i _ => l.length - (intOf i).toNat)
  case atStart => exact ⟨0, Nat.zero_le _, rfl, by simp, Kept.refl w⟩
  case round =>
    obtain ⟨k, hk, rfl, hn, hkw⟩ := hrel
    have HN := Lib.hid hn
    clear hn
    by_cases hlt : k < l.length
    · obtain ⟨B, off, rfl, hc, hd⟩ := (hp.kept hkw) k hlt
      have HP := Lib.hid hp
      clear hp
      have HKW := Lib.hid hkw
      clear hkw
      cases hpk : p l[k]
      all_goals
        go_wp2_with fail
        refine (HF.out _ _ _ HKW.out).mono ?_
        rintro e w1 ⟨rfl, hk1⟩
        have HK1 := Lib.hid (HKW.out.trans hk1)
        clear hk1
      · go_wp2
        go_roundw
        case rel => exact ⟨k + 1, by omega, by go_num, (any_take_succ p l k hlt HN.out).trans hpk, HK1.out⟩
        case measure => simp [intOf]; omega
      · go_wp2
        go_ret
        exact ⟨k, rfl, by rw [any_of_get p l k hlt hpk]; simp, HK1.out⟩
    · have HP := Lib.hid hp
      clear hp
      have HKW := Lib.hid hkw
      clear hkw
      go_wp2
      go_ret
      refine ⟨-1, rfl, ?_, HKW.out⟩
      rw [List.take_of_length_le (by omega)] at HN
      rw [HN.out]; rfl

set_option maxHeartbeats 400000 in
theorem containsFuncP_any_b (l : List (Int × Int)) (ao : Option Addr) (c g : Nat) (caps : Array Value) (p : Int × Int → Bool) (w : World) (hl : l.length < 9223372036854775808) (hp : Pairs w ao l)
    (hf : ∀ a b W, Kept w W → Calls Try.prog g (#[.agg #[.int .i64 a, .int .i64 b]] ++ caps) W (Gives (.bool (p (a, b))) W)) (hg : ∀ args W, (callFunc g args).run Try.prog W = .ok (.enter g args) W) :
    Calls Try.prog 79 #[.slice ao l.length c, .func (.func g) #[] caps] w (Gives (.bool (l.any p)) w) := by
  have HF := Lib.hid hf
  clear hf
  go_enter Try.func79, Try.ntmps79
  go_wp2_with fail
  refine (indexFuncP_any_b l ao c g caps p w hl hp HF.out hg).mono ?_
  rintro e w1 ⟨i, rfl, hi, hk⟩
  have HI := Lib.hid hi
  have HK := Lib.hid hk
  clear hi hk hg
  go_wp2
  go_ret
  exact ⟨ret_bool HI.out, HK.out⟩

set_option maxHeartbeats 800000 in
theorem risingP_any_b (l : List (Int × Int)) (ao : Option Addr) (c : Nat) (w : World) (hl : l.length < 9223372036854775808) (hp : Pairs w ao l) :
    Calls Try.prog 80 #[.slice ao l.length c, .func (.func 81) #[] #[]] w (Gives (.bool (risB l)) w) := by
  go_enter Try.func80, Try.ntmps80
  go_wp2
  go_loopw [5] (fun i wr => ∃ k : Nat, 1 ≤ k ∧ (k ≤ l.length ∨ k = 1) ∧ i = .int .i64 k ∧ (∀ i, (h : i + 1 < l.length) → i + 1 < k → cmpP l[i] l[i + 1] < 0) ∧ Kept w wr) (fun i _ => l.length - (intOf i).toNat)
  case atStart => exact ⟨1, by omega, .inr rfl, rfl, fun i h hk => by omega, Kept.refl w⟩
  case round =>
    obtain ⟨k, hk1, hk, rfl, hn, hkw⟩ := hrel
    have HN := Lib.hid hn
    clear hn
    have HKW := Lib.hid hkw
    clear hkw
    by_cases hlt : k < l.length
    · obtain ⟨j, rfl⟩ : ∃ j, k = j + 1 := ⟨k - 1, by omega⟩
      obtain ⟨B, off, rfl, hc, hd⟩ := (hp.kept HKW.out) (j + 1) hlt
      obtain ⟨B', off', e', hc', hd'⟩ := (hp.kept HKW.out) j (by omega)
      simp only [Option.some.injEq, Addr.mk.injEq] at e'
      obtain ⟨rfl, rfl, -⟩ := e'
      have HP := Lib.hid hp
      clear hp
      clear hk
      have hwj : IntKind.i64.wrap (j : Int) = j := IntWalk.i64_in _ (by omega)
      have hj0 : (j : Int) < (l.length : Int) := by omega
      have hj1 : ((j : Int) + 1).toNat = j + 1 := by omega
      have hj2 : (0 : Int) ≤ (j : Int) + 1 := by omega
      go_wp2
      refine region_tail 10 (by kernel_rfl) (by kernel_rfl) ?_
      simp only [List.take_succ_cons, List.take_zero, List.drop_succ_cons, List.drop_zero]
      repeat still_step
      refine wpStill_nil ?_
      by_cases hcm : cmpP l[j] l[j + 1] < 0
      all_goals
        have hdc : decide (0 ≤ cmpP l[j] l[j + 1]) = decide (¬ cmpP l[j] l[j + 1] < 0) := by simp
        have HCM := Lib.hid hcm
        simp only [hcm] at hdc
        clear hcm
        go_wp2_with fail
        refine (compare_any _ _ _ _ _).mono ?_
        rintro e w1 ⟨rfl, hk1⟩
        have HK1 := Lib.hid (HKW.out.trans (Kept.trans ((Kept.refl _).drew) hk1))
        clear hk1
      · go_wp2
        go_roundw
        case rel => exact ⟨j + 2, by omega, .inl (by omega), by go_num, fun i h hi => by
          rcases Nat.lt_or_ge (i + 1) (j + 1) with h' | h'
          · exact HN.out i h h'
          · obtain rfl : i = j := by omega
            exact HCM.out, HK1.out⟩
        case measure => simp [intOf]; omega
      · go_wp2
        go_ret
        exact ⟨ret_bool (risB_false (k := j + 1) (by omega) hlt (by have := HCM.out; simp only [Nat.add_sub_cancel]; omega)).symm, HK1.out⟩
    · clear hp hk
      go_wp2
      go_ret
      exact ⟨ret_bool (risB_true (fun i h => HN.out i h (by omega))).symm, HKW.out⟩

set_option maxHeartbeats 1600000 in
theorem Check_any_b (o : Prob) (ao bo : Option Addr) (ca cb : Nat) (w : World) (hA : Pairs w ao o.arcs) (hB : Pairs w bo o.near) (hla : o.arcs.length < 9223372036854775808) (hlb : o.near.length < 9223372036854775808) :
    Calls Try.prog 25 #[probV o ao ca bo cb] w (Gives (.int .i64 (chk o)) w) := by
  have HA := Lib.hid hA
  have HB := Lib.hid hB
  clear hA hB
  by_cases h1 : 24 < o.N
  · have e : chk o = 2 := by simp [chk, h1]
    rw [e]
    clear e
    go_enter Try.func25, Try.ntmps25
    go_wp2
    go_ret
    exact ⟨rfl, (Kept.refl w).alloc _⟩
  · by_cases h2 : o.N < 0
    · have e : chk o = 1 := by simp [chk, h1, h2]
      rw [e]
      clear e
      go_enter Try.func25, Try.ntmps25
      go_wp2
      go_ret
      exact ⟨rfl, (Kept.refl w).alloc _⟩
    · go_enter Try.func25, Try.ntmps25
      go_wp2_with fail
      obtain ⟨w0, e0, hk0, hb0, -⟩ := alloc_prob w o.N o.arcs o.near ao ca bo cb
      rw [e0]
      clear e0
      have HK0 := Lib.hid hk0
      have HB0 := Lib.hid hb0
      clear hk0 hb0
      refine (containsFuncP_any_b o.arcs ao ca 78 #[.pointer (some ⟨w.heap.size, 0, none⟩)] (fun x => badB o.N x.1 x.2) _ hla (HA.out.kept HK0.out) (fun a b W hW => check1_any a b o.N _ W (hW.cell HB0.out.c0)) Try.call78).mono ?_
      rintro e w1 ⟨rfl, hk1⟩
      have HB1 := Lib.hid (HB0.out.kept hk1)
      have HK1 := Lib.hid (HK0.out.trans hk1)
      clear hk1 HB0 HK0
      cases hA1 : o.arcs.any (fun x => badB o.N x.1 x.2)
      all_goals
        have F1 := Lib.hid hA1
        clear hA1
        obtain ⟨q0, q1, q2⟩ := HB1.out
      case true =>
        go_wp2
        go_ret
        exact ⟨ret_int (by rw [chk, if_neg (by omega), if_pos (.inr (.inl F1.out))]), HK1.out⟩
      go_wp2_with fail
      clear q0 q1 q2
      refine (containsFuncP_any_b o.near bo cb 78 #[.pointer (some ⟨w.heap.size, 0, none⟩)] (fun x => badB o.N x.1 x.2) _ hlb (HB.out.kept HK1.out) (fun a b W hW => check1_any a b o.N _ W (hW.cell HB1.out.c0)) Try.call78).mono ?_
      rintro e w2 ⟨rfl, hk2⟩
      have HB2 := Lib.hid (HB1.out.kept hk2)
      have HK2 := Lib.hid (HK1.out.trans hk2)
      clear hk2 HB1 HK1
      cases hA2 : o.near.any (fun x => badB o.N x.1 x.2)
      all_goals
        have F2 := Lib.hid hA2
        clear hA2
        obtain ⟨q0, q1, q2⟩ := HB2.out
      case true =>
        go_wp2
        go_ret
        exact ⟨ret_int (by rw [chk, if_neg (by omega), if_pos (.inr (.inr (.inl F2.out)))]), HK2.out⟩
      go_wp2_with fail
      clear q0 q1 q2
      refine (risingP_any_b o.arcs ao ca _ hla (HA.out.kept HK2.out)).mono ?_
      rintro e w3 ⟨rfl, hk3⟩
      have HB3 := Lib.hid (HB2.out.kept hk3)
      have HK3 := Lib.hid (HK2.out.trans hk3)
      clear hk3 HB2 HK2
      cases hA3 : risB o.arcs
      all_goals
        have F3 := Lib.hid hA3
        clear hA3
        obtain ⟨q0, q1, q2⟩ := HB3.out
      case false =>
        go_wp2
        go_ret
        exact ⟨ret_int (by rw [chk, if_neg (by omega), if_pos (.inr (.inr (.inr (.inl F3.out))))]), HK3.out⟩
      go_wp2_with fail
      clear q0 q1 q2
      refine (risingP_any_b o.near bo cb _ hlb (HB.out.kept HK3.out)).mono ?_
      rintro e w4 ⟨rfl, hk4⟩
      have HB4 := Lib.hid (HB3.out.kept hk4)
      have HK4 := Lib.hid (HK3.out.trans hk4)
      clear hk4 HB3 HK3
      cases hA4 : risB o.near
      all_goals
        have F4 := Lib.hid hA4
        clear hA4
        obtain ⟨q0, q1, q2⟩ := HB4.out
      case false =>
        go_wp2
        go_ret
        exact ⟨ret_int (by rw [chk, if_neg (by omega), if_pos (.inr (.inr (.inr (.inr (.inl F4.out)))))]), HK4.out⟩
      go_wp2_with fail
      clear q0 q1 q2
      refine (containsFuncP_any_b o.near bo cb 82 #[] (fun x => decide (x.2 < x.1)) _ hlb (HB.out.kept HK4.out) (fun a b W hW => check2_any a b W) Try.call82).mono ?_
      rintro e w5 ⟨rfl, hk5⟩
      have HB5 := Lib.hid (HB4.out.kept hk5)
      have HK5 := Lib.hid (HK4.out.trans hk5)
      clear hk5 HB4 HK4
      cases hA5 : o.near.any (fun x => decide (x.2 < x.1))
      all_goals
        have F5 := Lib.hid hA5
        clear hA5
        obtain ⟨q0, q1, q2⟩ := HB5.out
      case true =>
        go_wp2
        go_ret
        exact ⟨ret_int (by rw [chk, if_neg (by omega), if_pos (.inr (.inr (.inr (.inr (.inr F5.out)))))]), HK5.out⟩
      go_wp2
      go_ret
      exact ⟨ret_int (by rw [chk, if_neg (by omega), if_neg]; simp [F1.out, F2.out, F3.out, F4.out]; exact ⟨by omega, by simpa using F5.out⟩), HK5.out⟩


set_option maxHeartbeats 400000 in
theorem open_bad_b (o : Prob) (ao bo : Option Addr) (ca cb : Nat) (w : World) (hA : Pairs w ao o.arcs) (hB : Pairs w bo o.near) (hla : o.arcs.length < 9223372036854775808) (hlb : o.near.length < 9223372036854775808) (hv : chk o ≠ 0) :
    Calls Try.prog 75 #[probV o ao ca bo cb] w (Gives (.tuple #[.pointer none, .int .i64 (chk o)]) w) := by
  have HA := Lib.hid hA
  have HB := Lib.hid hB
  have hv' : (chk o != 0) = true := by simp [hv]
  clear hA hB hv
  go_enter Try.func75, Try.ntmps75
  go_wp2_with fail
  obtain ⟨w0, e0, hk0, hb0, -⟩ := alloc_prob w o.N o.arcs o.near ao ca bo cb
  rw [e0]
  clear e0
  have HK0 := Lib.hid hk0
  clear hk0 hb0
  refine (Check_any_b o ao bo ca cb w0 (HA.out.kept HK0.out) (HB.out.kept HK0.out) hla hlb).mono ?_
  rintro e w1 ⟨rfl, hk1⟩
  have HK1 := Lib.hid (HK0.out.trans hk1)
  clear hk1
  go_wp2
  go_ret2
  exact ⟨rfl, HK1.out⟩

set_option maxHeartbeats 400000 in
theorem Least_bad_b (o : Prob) (ao bo : Option Addr) (ca cb : Nat) (w : World) (hA : Pairs w ao o.arcs) (hB : Pairs w bo o.near) (hla : o.arcs.length < 9223372036854775808) (hlb : o.near.length < 9223372036854775808) (hv : chk o ≠ 0) :
    Calls Try.prog 60 #[probV o ao ca bo cb] w (PairErr [] (chk o) w) := by
  have HA := Lib.hid hA
  have HB := Lib.hid hB
  have HV := Lib.hid hv
  have hv' : (chk o != 0) = true := by simp [hv]
  clear hA hB hv
  go_enter Try.func60, Try.ntmps60
  go_wp2_with fail
  obtain ⟨w0, e0, hk0, hb0, -⟩ := alloc_prob w o.N o.arcs o.near ao ca bo cb
  rw [e0]
  clear e0
  have HK0 := Lib.hid hk0
  obtain ⟨q0, q1, q2⟩ := hb0
  have qb := lt_of_cell q0
  clear hk0
  go_wp2_with fail
  clear q0 q1 q2 qb
  refine (open_bad_b o ao bo ca cb w0 (HA.out.kept HK0.out) (HB.out.kept HK0.out) hla hlb HV.out).mono ?_
  rintro e w1 ⟨rfl, hk1⟩
  have HK1 := Lib.hid (HK0.out.trans hk1)
  clear hk1
  go_wp2
  go_ret2
  exact ⟨none, 0, rfl, Pairs.nil _ _, HK1.out⟩

theorem ris_nodup {l : List (Int × Int)} (h : risB l = true) : l.Nodup := by
  rw [risB_pw] at h
  rw [List.nodup_iff_pairwise_ne]
  refine List.Pairwise.imp (fun {a b} h e => ?_) h
  subst e
  simp [cmpP, orI, cmpI] at h
theorem near_len {o : Prob} (hc : chk o = 0) : o.near.length ≤ 576 := by
  have hr : risB o.near = true := by
    unfold chk at hc
    split at hc
    · cases hc
    · split at hc
      · cases hc
      · rename_i h
        cases hr : risB o.near
        · exact absurd (.inr (.inr (.inr (.inr (.inl hr))))) h
        · rfl
  obtain ⟨h0, h24, _, hp⟩ := pair_of_chk hc
  have hsub : o.near ⊆ (List.range 24).flatMap (fun a => (List.range 24).map fun b => (((a : Nat) : Int), ((b : Nat) : Int))) := fun x hx => by
    have := hp x hx
    refine List.mem_flatMap.2 ⟨x.1.toNat, List.mem_range.2 (by omega), List.mem_map.2 ⟨x.2.toNat, List.mem_range.2 (by omega), ?_⟩⟩
    rw [Int.toNat_of_nonneg (by omega), Int.toNat_of_nonneg (by omega)]
  have := List.Nodup.length_le_of_subset (ris_nodup hr) hsub
  have e : ((List.range 24).flatMap (fun a => (List.range 24).map fun b => (((a : Nat) : Int), ((b : Nat) : Int)))).length = 576 := by decide +kernel
  omega
end Go.Proofs.Yteljjkghjbofnaa
