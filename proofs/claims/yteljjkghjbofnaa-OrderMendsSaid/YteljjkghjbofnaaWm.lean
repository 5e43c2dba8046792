/- OrderMends. -/
import Derived.Test.YteljjkghjbofnaaWk
import Derived.Test.YteljjkghjbofnaaXh
import Derived.Deep.RegionHeld3
set_option maxRecDepth 100000
namespace Go.Proofs.Yteljjkghjbofnaa
open Go Go.Proofs Go.RowKit
attribute [local go_sem] Oper.semAt_some

theorem field24 (N : Int) (pa : Option Addr) (n c : Nat) (vb : Value) (w : World) : (Instr.field 24 (.agg #[.int .i64 N, .slice pa n c, vb]) 1).run Try.prog w = .ok (.slice pa n c) w := by kernel_rfl

theorem FirstR_err (o : Prob) : (FirstR o).2 = errS o := by
  unfold FirstR
  by_cases h : errS o = 0
  · rw [if_pos h, h]
  · rw [if_neg h]

set_option maxHeartbeats 4000000 in
theorem OrderMends_any (o : Prob) (ao bo : Option Addr) (ca cb : Nat) (l : List (Int × Int)) (lo : Option Addr) (lc : Nat) (w : World) (hA : Pairs w ao o.arcs) (hB : Pairs w bo o.near) (hL : Pairs w lo l) (hlen : o.arcs.length < 9223372036854775808 ∧ o.near.length < 9223372036854775808) :
    Calls Try.prog 15 #[probV o ao ca bo cb, .slice lo l.length lc] w (Gives (.bool true) w) := by
  have HA := Lib.hid hA
  have HB := Lib.hid hB
  have HL := Lib.hid hL
  have HLEN := Lib.hid hlen
  clear hA hB hL hlen
  by_cases h1 : 16 < o.arcs.length
  · have e1 : decide ((o.arcs.length : Int) > 16) = true := decide_eq_true (by omega)
    have e2 : decide (16 < o.arcs.length) = true := decide_eq_true h1
    clear h1
    go_enter Try.func15, Try.ntmps15
    go_wp2_with fail
    obtain ⟨w0, e0, hk0, hb0, -⟩ := alloc_prob w o.N o.arcs o.near ao ca bo cb
    rw [e0]
    clear e0
    have HK0 := Lib.hid hk0
    clear hk0 hb0
    refine (alive_any w0).mono ?_
    rintro e w1 ⟨rfl, hk⟩
    have HK1 := Lib.hid (HK0.out.trans hk)
    clear hk
    go_wp2
    go_ret
    exact ⟨rfl, HK1.out⟩
  have e1 : decide ((o.arcs.length : Int) > 16) = false := decide_eq_false (by omega)
  have e2 : decide (16 < o.arcs.length) = false := decide_eq_false h1
  by_cases h2 : 16 < l.length
  · have e3 : decide ((l.length : Int) > 16) = true := decide_eq_true (by omega)
    have e4 : decide (16 < l.length) = true := decide_eq_true h2
    clear h1 h2
    go_enter Try.func15, Try.ntmps15
    go_wp2_with fail
    obtain ⟨w0, e0, hk0, hb0, -⟩ := alloc_prob w o.N o.arcs o.near ao ca bo cb
    rw [e0]
    clear e0
    have HK0 := Lib.hid hk0
    clear hk0 hb0
    refine (alive_any w0).mono ?_
    rintro e w1 ⟨rfl, hk⟩
    have HK1 := Lib.hid (HK0.out.trans hk)
    clear hk
    go_wp2
    go_ret
    exact ⟨rfl, HK1.out⟩
  have e3 : decide ((l.length : Int) > 16) = false := decide_eq_false (by omega)
  have e4 : decide (16 < l.length) = false := decide_eq_false h2
  have hm16 : o.arcs.length ≤ 16 := by omega
  have hl16 : l.length ≤ 16 := by omega
  clear h1 h2
  go_enter Try.func15, Try.ntmps15
  go_wp2_with fail
  obtain ⟨w0, e0, hk0, hb0, -⟩ := alloc_prob w o.N o.arcs o.near ao ca bo cb
  rw [e0]
  clear e0
  have HK0 := Lib.hid hk0
  have HB0 := Lib.hid hb0
  clear hk0 hb0 e1 e2 e3 e4
  by_cases hc : chk o = 0
  case neg =>
    have e1 : (chk o != 0) = true := by simp [hc]
    refine (Least_bad_b o ao bo ca cb w0 (HA.out.kept HK0.out) (HB.out.kept HK0.out) HLEN.out.1 HLEN.out.2 hc).mono ?_
    rintro e w1 ⟨pa, pc, rfl, -, hk⟩
    have HK1 := Lib.hid (HK0.out.trans hk)
    clear hk hc
    simp only [List.length_nil]
    go_wp2_with fail
    refine (alive_any w1).mono ?_
    rintro e w2 ⟨rfl, hk⟩
    have HK2 := Lib.hid (HK1.out.trans hk)
    clear hk
    go_wp2
    go_ret
    exact ⟨rfl, HK2.out⟩
  have HC := Lib.hid hc
  have HP : Hid (IsProb w o ao bo) := Lib.hid ⟨HA.out, HB.out, by omega, by have := near_len hc; omega⟩
  have HLR : Hid (LeastR o = if 8 < o.N ∨ 16 < o.arcs.length then ([], 2) else (pickT o.arcs (leastOf (okC o) o.arcs.length) o.arcs.length, 0)) := Lib.hid (by unfold LeastR; rw [if_pos hc])
  clear hc
  have hF := Least_any o ao bo ca cb w0 (HP.out.kept HK0.out)
  by_cases h8 : 8 < o.N
  · rw [HLR.out, if_pos (.inl h8)] at hF
    refine hF.mono ?_
    clear hF h8
    rintro e w1 ⟨pa, pc, rfl, -, hk⟩
    have HK1 := Lib.hid (HK0.out.trans hk)
    clear hk
    simp only [List.length_nil]
    go_wp2_with fail
    refine (alive_any w1).mono ?_
    rintro e w2 ⟨rfl, hk⟩
    have HK2 := Lib.hid (HK1.out.trans hk)
    clear hk
    go_wp2
    go_ret
    exact ⟨rfl, HK2.out⟩
  rw [HLR.out, if_neg (fun h => h.elim h8 (by omega))] at hF
  have HMF := Lib.hid (mend_facts HC.out)
  have HLL := Lib.hid (pickT_len o.arcs (leastOf (okC o) o.arcs.length) o.arcs.length)
  refine hF.mono ?_
  clear hF h8 HLR
  rintro e w1 ⟨pa, pc, rfl, hpl, hk⟩
  simp only [] at hpl ⊢
  generalize pickT o.arcs (leastOf (okC o) o.arcs.length) o.arcs.length = L at *
  have hL16 : L.length ≤ 16 := by have := HLL.out; omega
  have HK1 := Lib.hid (HK0.out.trans hk)
  have HB1 := Lib.hid (HB0.out.kept hk)
  have HPL := Lib.hid hpl
  clear hpl hk HB0 HLL
  obtain ⟨q0, q1, q2⟩ := HB1.out
  have qb := lt_of_cell q0
  go_wp2_with fail
  clear q0 q1 q2 qb
  refine (without_any o ao bo ca cb L pa pc w1 (HP.out.kept HK1.out) hm16 HPL.out hL16).mono ?_
  rintro e w2 ⟨xa, xc, rfl, hip, hk⟩
  have HK2 := Lib.hid (HK1.out.trans hk)
  have HB2 := Lib.hid (HB1.out.kept hk)
  have HPL2 := Lib.hid (HPL.out.kept hk)
  have HIP : Hid (IsProb w2 (lackP o L) xa bo) := Lib.hid hip
  clear hip hk HB1 HPL
  go_wp2_with fail
  have hF := First_any (lackP o L) xa bo xc cb w2 HIP.out goes_webOf
  rw [FirstR_err, HMF.out.mend] at hF
  refine hF.mono ?_
  clear hF HIP
  rintro e w3 ⟨v3, rfl, -, hk⟩
  have HK3 := Lib.hid (HK2.out.trans hk)
  have HB3 := Lib.hid (HB2.out.kept hk)
  have HPL3 := Lib.hid (HPL2.out.kept hk)
  clear hk HB2 HPL2
  obtain ⟨q0, q1, q2⟩ := HB3.out
  have qb := lt_of_cell q0
  go_wp2_with fail
  clear q0 q1 q2 qb
  have hF := First_any o ao bo ca cb w3 (HP.out.kept HK3.out) goes_webOf
  obtain ⟨g, hg⟩ : ∃ g, errS o = g := ⟨_, rfl⟩
  rw [FirstR_err, hg] at hF
  have HG := Lib.hid hg
  clear hg
  refine hF.mono ?_
  clear hF
  rintro e w4 ⟨v4, rfl, -, hk⟩
  have HK4 := Lib.hid (HK3.out.trans hk)
  have HB4 := Lib.hid (HB3.out.kept hk)
  have HPL4 := Lib.hid (HPL3.out.kept hk)
  clear hk HB3 HPL3
  go_upto_region 8 with fail
  obtain ⟨q0, q1, q2⟩ := HB4.out
  have qb := lt_of_cell q0
  have HCNT : Hid ((lackP o L).arcs.length + L.length = o.arcs.length) := Lib.hid HMF.out.cnt
  have HNONE : Hid (L.length = 0 ↔ g = 0) := Lib.hid (by rw [← HG.out]; exact HMF.out.none)
  have hF := without_any o ao bo ca cb L pa pc w4.drew ((HP.out.kept HK4.out).kept (Kept.refl _).drew) hm16 (HPL4.out.kept (Kept.refl _).drew) hL16
  have hF2 : Calls Try.prog 63 #[probV o ao ca bo cb, .slice pa L.length pc] w4.drew (RWithP (lackP o L) bo cb w4.drew) := hF
  have hkv : ∀ kk, (lackP o L).arcs.length = kk → Calls Try.prog 63 #[probV o ao ca bo cb, .slice pa L.length pc] w4.drew (fun e w' => ∃ qa qc, e = .returned (.agg #[.int .i64 o.N, .slice qa kk qc, .slice bo o.near.length cb]) ∧ Kept w4.drew w') := fun kk hkk => hF2.mono fun e w' h => by
    obtain ⟨qa, qc, he, _, hk⟩ := h
    refine ⟨qa, qc, ?_, hk⟩
    rw [he, ← hkk]
    rfl
  have HKV := Lib.hid hkv
  clear hF hF2 hkv
  go_cut [72] (fun s72 wx => s72 = .bool false ∧ Kept w4 wx)
  case first =>
    obtain ⟨kk, hkk⟩ : ∃ kk, (lackP o L).arcs.length = kk := ⟨_, rfl⟩
    have hcnt := HCNT.out
    rw [hkk] at hcnt
    have hfld := fun (qa : Option Addr) (qc : Nat) (X : World) => field24 o.N qa kk qc (.slice bo o.near.length cb) X
    have hsub1 : wrap64 ((o.arcs.length : Int) - (L.length : Int)) = (kk : Int) := by rw [IntWalk.wrap64_in _ (by omega)]; omega
    have hsub2 : IntKind.i64.wrap ((o.arcs.length : Int) - (L.length : Int)) = (kk : Int) := by rw [IntWalk.i64_in _ (by omega)]; omega
    have HFW := Lib.hid (HKV.out kk hkk)
    clear hcnt hkk
    have e9 : ((kk : Int) != (kk : Int)) = false := by simp
    by_cases hz : L.length = 0
    · have e1 : ((L.length : Int) == 0) = true := by simp [hz]
      have e2 : (L.length == 0) = true := by simp [hz]
      obtain rfl := HNONE.out.1 hz
      clear hz
      go_region_held3 (fun X => X.cell? ⟨w.heap.size, 0, none⟩ = some (.int .i64 o.N) ∧ X.cell? ⟨w.heap.size, 1, none⟩ = some (.slice ao o.arcs.length ca) ∧ X.cell? ⟨w.heap.size, 2, none⟩ = some (.slice bo o.near.length cb) ∧ w.heap.size < X.heap.size) (first | exact ⟨q0, q1, q2, qb⟩ | exact ⟨z0, z1, z2, zb⟩) (first | (go_at_call 63; refine HFW.out.mono ?_; rintro e w7 ⟨qa, qc, rfl, hk7⟩; have z0 := ((Kept.refl _).drew.trans hk7).cell q0; have z1 := ((Kept.refl _).drew.trans hk7).cell q1; have z2 := ((Kept.refl _).drew.trans hk7).cell q2; have zb := lt_of_cell z0))
      all_goals
        go_wp2_with fail
        go_meet
        exact ⟨rfl, (Kept.refl _).drew.trans hk7⟩
    · have e1 : ((L.length : Int) == 0) = false := by simp only [beq_eq_false_iff_ne]; omega
      have e2 : (L.length == 0) = false := by simp only [beq_eq_false_iff_ne]; omega
      have e3 : (g == 0) = false := by
        have := HNONE.out
        simp only [beq_eq_false_iff_ne]
        exact fun h => hz (this.2 h)
      clear hz
      go_region_held3 (fun X => X.cell? ⟨w.heap.size, 0, none⟩ = some (.int .i64 o.N) ∧ X.cell? ⟨w.heap.size, 1, none⟩ = some (.slice ao o.arcs.length ca) ∧ X.cell? ⟨w.heap.size, 2, none⟩ = some (.slice bo o.near.length cb) ∧ w.heap.size < X.heap.size) (first | exact ⟨q0, q1, q2, qb⟩ | exact ⟨z0, z1, z2, zb⟩) (first | (go_at_call 63; refine HFW.out.mono ?_; rintro e w7 ⟨qa, qc, rfl, hk7⟩; have z0 := ((Kept.refl _).drew.trans hk7).cell q0; have z1 := ((Kept.refl _).drew.trans hk7).cell q1; have z2 := ((Kept.refl _).drew.trans hk7).cell q2; have zb := lt_of_cell z0))
      all_goals
        go_wp2_with fail
        go_meet
        exact ⟨rfl, (Kept.refl _).drew.trans hk7⟩
  case rest =>
    obtain ⟨rfl, hkc⟩ := hcut
    have HK5 := Lib.hid (HK4.out.trans hkc)
    have HB5 := Lib.hid (HB4.out.kept hkc)
    clear hkc HK4 HB4 HPL4 HKV HCNT HNONE q0 q1 q2 qb
    obtain ⟨q0, q1, q2⟩ := HB5.out
    have qb := lt_of_cell q0
    go_wp2_with fail
    clear q0 q1 q2 qb
    refine (without_any o ao bo ca cb l lo lc wc (HP.out.kept HK5.out) hm16 (HL.out.kept HK5.out) hl16).mono ?_
    rintro e w6 ⟨xa2, xc2, rfl, hip, hk⟩
    have HK6 := Lib.hid (HK5.out.trans hk)
    have HB6 := Lib.hid (HB5.out.kept hk)
    have HIP : Hid (IsProb w6 (lackP o l) xa2 bo) := Lib.hid hip
    clear hip hk HB5
    go_wp2_with fail
    have hF := First_any (lackP o l) xa2 bo xc2 cb w6 HIP.out goes_webOf
    obtain ⟨h, hh⟩ : ∃ h, errS (lackP o l) = h := ⟨_, rfl⟩
    rw [FirstR_err, hh] at hF
    have HH := Lib.hid hh
    clear hh
    refine hF.mono ?_
    clear hF HIP
    rintro e w7 ⟨v7, rfl, -, hk⟩
    have HK7 := Lib.hid (HK6.out.trans hk)
    have HB7 := Lib.hid (HB6.out.kept hk)
    clear hk HB6
    go_upto_region 11 with fail
    obtain ⟨q0, q1, q2⟩ := HB7.out
    have qb := lt_of_cell q0
    obtain ⟨kk, hkk⟩ : ∃ kk, (lackP o l).arcs.length = kk := ⟨_, rfl⟩
    have HLE : Hid (h = 0 → L.length + kk ≤ o.arcs.length) := Lib.hid fun e => by
      rw [← hkk]
      exact HMF.out.few l (HH.out.trans e)
    have hkm : kk ≤ o.arcs.length := by
      rw [← hkk]
      show (filtA o.arcs l o.arcs.length).length ≤ _
      unfold filtA
      have := List.length_filter_le (fun x => !decide (x ∈ l)) (o.arcs.take o.arcs.length)
      rw [List.length_take] at this
      omega
    have hF := without_any o ao bo ca cb l lo lc w7.drew ((HP.out.kept HK7.out).kept (Kept.refl _).drew) hm16 ((HL.out.kept HK7.out).kept (Kept.refl _).drew) hl16
    have hF2 : Calls Try.prog 63 #[probV o ao ca bo cb, .slice lo l.length lc] w7.drew (fun e w' => ∃ qa qc, e = .returned (.agg #[.int .i64 o.N, .slice qa kk qc, .slice bo o.near.length cb]) ∧ Kept w7.drew w') := hF.mono fun e w' h => by
      obtain ⟨qa, qc, he, _, hk⟩ := h
      refine ⟨qa, qc, ?_, hk⟩
      rw [he, ← hkk]
      rfl
    have HFW := Lib.hid hF2
    clear hF hF2 hkk
    go_cut [13] (fun s13 wx => s13 = .int .i64 ((o.arcs.length : Int) - (kk : Int)) ∧ Kept w7 wx)
    case first =>
      have hfld := fun (qa : Option Addr) (qc : Nat) (X : World) => field24 o.N qa kk qc (.slice bo o.near.length cb) X
      have hsub1 : wrap64 ((o.arcs.length : Int) - (kk : Int)) = (o.arcs.length : Int) - (kk : Int) := by rw [IntWalk.wrap64_in _ (by omega)]
      have hsub2 : IntKind.i64.wrap ((o.arcs.length : Int) - (kk : Int)) = (o.arcs.length : Int) - (kk : Int) := by rw [IntWalk.i64_in _ (by omega)]
      go_region_held3 (fun X => X.cell? ⟨w.heap.size, 0, none⟩ = some (.int .i64 o.N) ∧ X.cell? ⟨w.heap.size, 1, none⟩ = some (.slice ao o.arcs.length ca) ∧ X.cell? ⟨w.heap.size, 2, none⟩ = some (.slice bo o.near.length cb) ∧ w.heap.size < X.heap.size) (first | exact ⟨q0, q1, q2, qb⟩ | exact ⟨z0, z1, z2, zb⟩) (first | (go_at_call 63; refine HFW.out.mono ?_; rintro e w8 ⟨qa, qc, rfl, hk8⟩; have z0 := ((Kept.refl _).drew.trans hk8).cell q0; have z1 := ((Kept.refl _).drew.trans hk8).cell q1; have z2 := ((Kept.refl _).drew.trans hk8).cell q2; have zb := lt_of_cell z0))
      all_goals
        go_wp2_with fail
        go_meet
        exact ⟨rfl, (Kept.refl _).drew.trans hk8⟩
    case rest =>
      obtain ⟨rfl, hkc⟩ := hcut
      have HK8 := Lib.hid (HK7.out.trans hkc)
      clear hkc q0 q1 q2 qb HFW
      go_wp2_with fail
      refine (alive_any wc).mono ?_
      rintro e w9 ⟨rfl, hk⟩
      have HK9 := Lib.hid (HK8.out.trans hk)
      clear hk
      by_cases hz : h = 0
      · have e1 : (h != 0) = false := by simp [hz]
        have hle := HLE.out hz
        have e2 : decide ((o.arcs.length : Int) - (kk : Int) ≥ (L.length : Int)) = true := decide_eq_true (by omega)
        clear hz hle
        go_wp2
        go_ret
        exact ⟨rfl, HK9.out⟩
      · have e1 : (h != 0) = true := by simp [hz]
        clear hz
        go_wp2
        go_ret
        exact ⟨rfl, HK9.out⟩
end Go.Proofs.Yteljjkghjbofnaa
