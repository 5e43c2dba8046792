/- ref.Count. -/
import Derived.Test.YteljjkghjbofnaaTx
set_option maxRecDepth 100000
namespace Go.Proofs.Yteljjkghjbofnaa
open Go Go.Proofs Go.RowKit
attribute [local go_sem] Oper.semAt_some

set_option maxHeartbeats 400000 in
theorem RCount_any (o : Prob) (ao bo : Option Addr) (ca cb : Nat) (w : World) (ho : IsProb w o ao bo) :
    Calls Try.prog 50 #[probV o ao ca bo cb] w (Gives (.tuple #[.int .i64 (CountR o).1, .int .i64 (CountR o).2]) w) := by
  have HO := Lib.hid ho
  clear ho
  obtain ⟨r1, hr1⟩ : ∃ r, (CountR o).1 = r := ⟨_, rfl⟩
  obtain ⟨r2, hr2⟩ : ∃ r, (CountR o).2 = r := ⟨_, rfl⟩
  rw [hr1, hr2]
  have HR1 := Lib.hid hr1
  have HR2 := Lib.hid hr2
  clear hr1 hr2
  go_enter Try.func50, Try.ntmps50
  go_wp2_with fail
  obtain ⟨w0, e0, hk0, hb0, -⟩ := alloc_prob w o.N o.arcs o.near ao ca bo cb
  rw [e0]
  clear e0
  have HK0 := Lib.hid hk0
  have HB0 := Lib.hid hb0
  clear hk0
  obtain ⟨q0, q1, q2⟩ := hb0
  have qb := lt_of_cell q0
  go_wp2_with fail
  clear q0 q1 q2 qb
  refine (Rcounted_any o ao bo ca cb w0 (HO.out.kept HK0.out)).mono ?_
  rintro e w1 ⟨rfl, hk⟩
  have HK1 := Lib.hid (HK0.out.trans hk)
  have HB1 := Lib.hid (HB0.out.kept hk)
  clear hk HK0 HB0
  by_cases he : errC o = 0
  · obtain ⟨hc, hn⟩ := errC_ok he
    have HX : Hid (cnt (webOf o) 0#32 = r1 ∧ 0 = r2) := Lib.hid (by rw [← HR1.out, ← HR2.out]; unfold CountR; rw [if_pos he]; exact ⟨rfl, rfl⟩)
    have HC := Lib.hid hc
    have HN := Lib.hid hn
    rw [he]
    obtain ⟨q0, q1, q2⟩ := HB1.out
    have qb := lt_of_cell q0
    clear he hc hn
    go_wp2_with fail
    clear q0 q1 q2 qb
    refine (Rways_any o ao bo ca cb w1 (HO.out.kept HK1.out) HC.out HN.out).mono ?_
    rintro e w2 ⟨g, rfl, hg, harr, hk⟩
    have HK2 := Lib.hid (HK1.out.trans hk)
    have hm0 : 0 < 2 ^ (webOf o).n := Nat.two_pow_pos _
    have h0 : 0 < (tabK (webOf o) (2 ^ (webOf o).n) 0).length := by rw [tabK_len]; exact hm0
    have c0 := harr.get 0 h0
    rw [tabK_get, if_pos (Nat.le_refl _)] at c0
    have e0 : BitVec.ofNat 32 0 = 0#32 := rfl
    rw [e0, HX.out.1] at c0
    clear hk harr h0 hg e0
    generalize 2 ^ (webOf o).n = m at *
    go_wp2
    go_ret2
    rw [← HX.out.2]
    exact ⟨rfl, HK2.out⟩
  · have HX : Hid (0 = r1 ∧ errC o = r2) := Lib.hid (by rw [← HR1.out, ← HR2.out]; unfold CountR; rw [if_neg he]; exact ⟨rfl, rfl⟩)
    have e1 : (errC o != 0) = true := by simp [he]
    clear he
    go_wp2
    go_ret2
    rw [← HX.out.1, ← HX.out.2]
    exact ⟨rfl, HK1.out⟩
end Go.Proofs.Yteljjkghjbofnaa
