/- ref.Standing, ref.circular. -/
import Derived.Test.YteljjkghjbofnaaYc
set_option maxRecDepth 100000
namespace Go.Proofs.Yteljjkghjbofnaa
open Go Go.Proofs Go.RowKit
attribute [local go_sem] Oper.semAt_some

set_option maxHeartbeats 1600000 in
theorem RStanding_any (o : Prob) (ao bo : Option Addr) (ca cb : Nat) (a b : Int) (w : World) (ho : IsProb w o ao bo) :
    Calls Try.prog 27 #[probV o ao ca bo cb, .int .i64 a, .int .i64 b] w (Gives (.int .u8 (standP o a b)) w) := by
  have HO := Lib.hid ho
  clear ho
  obtain ⟨s, hs⟩ : ∃ s, standP o a b = s := ⟨_, rfl⟩
  rw [hs]
  have HS := Lib.hid hs
  clear hs
  go_enter Try.func27, Try.ntmps27
  go_wp2_with fail
  obtain ⟨w0, e0, hk0, hb0, -⟩ := alloc_prob w o.N o.arcs o.near ao ca bo cb
  rw [e0]
  clear e0
  have HK0 := Lib.hid hk0
  have HB0 := Lib.hid hb0
  clear hk0
  obtain ⟨q0, q1, q2⟩ := hb0
  have qb := lt_of_cell q0
  go_wp2_with fail
  clear q0 q1 q2 qb
  refine (RCheck_any o ao bo ca cb w0 (HO.out.kept HK0.out)).mono ?_
  rintro e w1 ⟨rfl, hk1⟩
  have HK1 := Lib.hid (HK0.out.trans hk1)
  have HB1 := Lib.hid (HB0.out.kept hk1)
  clear hk1
  by_cases hc : chk o = 0
  · have HC := Lib.hid hc
    rw [hc]
    clear hc
    obtain ⟨q0, q1, q2⟩ := HB1.out
    have qb := lt_of_cell q0
    by_cases hok : (0 ≤ a ∧ a < o.N) ∧ (0 ≤ b ∧ b < o.N) ∧ a ≠ b
    · have HX : Hid (standW (webOf o) a.toNat b.toNat = s) := Lib.hid (by rw [← HS.out]; unfold standP; rw [if_pos ⟨HC.out, hok⟩])
      have hN := webOf_nI HC.out
      obtain ⟨⟨a1, a2⟩, ⟨b1, b2⟩, ab⟩ := hok
      obtain ⟨x, rfl⟩ := Int.eq_ofNat_of_zero_le a1
      obtain ⟨y, rfl⟩ := Int.eq_ofNat_of_zero_le b1
      have hxn : x < (webOf o).n := by omega
      have hyn : y < (webOf o).n := by omega
      have e1 : decide (o.N ≤ (x : Int)) = false := decide_eq_false (by omega)
      have e2 : decide (o.N ≤ (y : Int)) = false := decide_eq_false (by omega)
      have e3 : ((x : Int) == (y : Int)) = false := by simp; omega
      have HXN := Lib.hid hxn
      have HYN := Lib.hid hyn
      clear a1 a2 b1 b2 ab hxn hyn hN
      go_wp2_with fail
      clear q0 q1 q2 qb
      refine (Chained_any o ao bo ca cb w1 (HO.out.kept HK1.out) HC.out).mono ?_
      rintro e w2 ⟨t, g, rfl, hm, hk2⟩
      have HK2 := Lib.hid (HK1.out.trans hk2)
      have r0 := hm.row x HXN.out
      have r1 := hm.row y HYN.out
      have v0 := hm.val x y HXN.out HYN.out
      have v1 := hm.val y x HYN.out HXN.out
      rw [chM_reach HC.out HXN.out] at v0
      rw [chM_reach HC.out HYN.out] at v1
      have hx := HX.out
      unfold standW at hx
      rw [Int.toNat_natCast, Int.toNat_natCast] at hx
      have hxn := HXN.out
      have hyn := HYN.out
      clear hm hk2 e1 e2 e3
      generalize (webOf o).n = n at *
      generalize hasS ((webOf o).reach x) y = v at *
      generalize hasS ((webOf o).reach y) x = u at *
      have HY := Lib.hid hx
      clear hx
      cases v <;> cases u
      all_goals
        go_wp2
        go_ret
        exact ⟨ret_int HY.out, HK2.out⟩
    · have HX : Hid (0 = s) := Lib.hid (by rw [← HS.out]; unfold standP; rw [if_neg (fun h => hok h.2)])
      go_wp2_with fail
      all_goals first
        | (go_ret; exact ⟨ret_int HX.out, HK1.out⟩)
        | (exfalso; refine hok ⟨⟨by omega, by omega⟩, ⟨by omega, by omega⟩, fun h => ?_⟩; subst h; simp at *)
  · have hb : (chk o != 0) = true := by simp [hc]
    have HX : Hid (0 = s) := Lib.hid (by rw [← HS.out]; unfold standP; rw [if_neg (fun h => hc h.1)])
    clear hc
    go_wp2
    go_ret
    exact ⟨ret_int HX.out, HK1.out⟩

set_option maxHeartbeats 1600000 in
theorem Rcircular_any (o : Prob) (ao bo : Option Addr) (ca cb : Nat) (w : World) (ho : IsProb w o ao bo) (hc : chk o = 0) :
    Calls Try.prog 90 #[probV o ao ca bo cb] w (Gives (.bool (circB (webOf o))) w) := by
  have HO := Lib.hid ho
  have HC := Lib.hid hc
  clear ho hc
  go_enter Try.func90, Try.ntmps90
  go_wp2_with fail
  obtain ⟨w0, e0, hk0, hb0, -⟩ := alloc_prob w o.N o.arcs o.near ao ca bo cb
  rw [e0]
  clear e0
  have HK0 := Lib.hid hk0
  have HB0 := Lib.hid hb0
  clear hk0
  obtain ⟨q0, q1, q2⟩ := hb0
  have qb := lt_of_cell q0
  go_wp2_with fail
  clear q0 q1 q2 qb
  refine (Chained_any o ao bo ca cb w0 (HO.out.kept HK0.out) HC.out).mono ?_
  rintro e w1 ⟨t, g, rfl, hm, hk1⟩
  have HK1 := Lib.hid (HK0.out.trans hk1)
  have hb1 := HB0.out.kept hk1
  have HM := Lib.hid hm
  clear hm hk1
  obtain ⟨q0, q1, q2⟩ := hb1
  have hN := webOf_nI HC.out
  have h24 := webOf_n HC.out
  simp only [] at q0
  rw [← hN] at q0
  have qb := lt_of_cell q0
  have HV : Hid (∀ x, x < (webOf o).n → w1.cell? ⟨g x, x, none⟩ = some (.bool (hasS ((webOf o).reach x) x))) := Lib.hid fun x hx => by rw [← chM_reach HC.out hx]; exact HM.out.val x x hx hx
  generalize hW : webOf o = W at *
  clear hN q1 q2
  go_wp2
  go_loop [4] (fun i => ∃ k : Nat, k ≤ W.n ∧ i = .int .i64 k ∧ (List.range k).any (fun a => hasS (W.reach a) a) = false) (fun i => W.n - (intOf i).toNat)
  case atStart => exact ⟨0, Nat.zero_le _, rfl, rfl⟩
  case round =>
    obtain ⟨k, hk, rfl, hn⟩ := hrel
    have HNO := Lib.hid hn
    clear hn
    by_cases hlt : k < W.n
    · have r0 := HM.out.row k hlt
      have v0 := HV.out k hlt
      have HE : Hid ((List.range (k + 1)).any (fun a => hasS (W.reach a) a) = hasS (W.reach k) k) := Lib.hid (by rw [List.range_succ, List.any_append, HNO.out]; simp)
      have HT : Hid (hasS (W.reach k) k = true → true = circB W) := Lib.hid fun h => (List.any_eq_true.2 ⟨k, List.mem_range.2 hlt, h⟩ : ((List.range W.n).any fun a => hasS (W.reach a) a) = true).symm
      generalize hasS (W.reach k) k = v at *
      cases v
      · go_wp2
        go_round
        case measure => simp [intOf]; omega
        case rel => exact ⟨k + 1, by omega, by go_num, HE.out⟩
      · go_wp2
        go_ret
        exact ⟨ret_bool (by have := HT.out; simpa using this), HK1.out⟩
    · obtain rfl : k = W.n := by omega
      clear hlt hk
      go_wp2
      go_ret
      exact ⟨ret_bool (by unfold circB; exact HNO.out.symm), HK1.out⟩
end Go.Proofs.Yteljjkghjbofnaa
