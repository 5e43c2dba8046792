/- ref.Least. -/
import Derived.Test.YteljjkghjbofnaaWc
set_option maxRecDepth 100000
namespace Go.Proofs.Yteljjkghjbofnaa
open Go Go.Proofs Go.RowKit
attribute [local go_sem] Oper.semAt_some

def leastOf (ok : List Nat → Bool) (m : Nat) : List Nat := (firstO (fun k => takeF ok m k 0 []) (List.range (m + 1))).getD []
theorem leastOf_is {ok : List Nat → Bool} {m : Nat} (h : ok (List.range m) = true) : LeastI ok m (leastOf ok m) := by
  unfold leastOf
  cases hf : firstO (fun k => takeF ok m k 0 []) (List.range (m + 1)) with
  | none =>
    rw [firstO_none] at hf
    exact absurd (hf m (List.mem_range.2 (by omega))) (takeF_full h)
  | some l =>
    obtain ⟨A, k, B, h1, h2, h3⟩ := firstO_some hf
    refine takeF_least h3 fun j hj => ?_
    have hk : k ∈ List.range (m + 1) := by rw [h1]; simp
    have hjm : j ∈ List.range (m + 1) := by have := List.mem_range.1 hk; exact List.mem_range.2 (by omega)
    rw [h1] at hjm
    rcases List.mem_append.1 hjm with h4 | h4
    · exact h2 j h4
    · have hp : (List.range (m + 1)).Pairwise (· < ·) := List.pairwise_lt_range
      rw [h1] at hp
      have hp2 := (List.pairwise_append.1 hp).2.1
      rcases List.mem_cons.1 h4 with rfl | h4
      · omega
      · have := (List.pairwise_cons.1 hp2).1 j h4; omega
def LeastR (o : Prob) : List (Int × Int) × Int :=
  if chk o = 0 then (if 8 < o.N ∨ 16 < o.arcs.length then ([], 2) else (pickT o.arcs (leastOf (okC o) o.arcs.length) o.arcs.length, 0)) else ([], chk o)
def PairErr (l : List (Int × Int)) (er : Int) (w : World) (e : Ending) (w' : World) : Prop := ∃ pa pc, e = .returned (.tuple #[.slice pa l.length pc, .int .i64 er]) ∧ Pairs w' pa l ∧ Kept w w'
theorem shl_m (m : Nat) (hm : m ≤ 12) : wrap64 ((2 : Int) ^ m) = ((2 ^ m : Nat) : Int) := by
  have : (2 : Int) ^ m = ((2 ^ m : Nat) : Int) := by simp
  rw [this]
  have h : 2 ^ m ≤ 2 ^ 12 := Nat.pow_le_pow_right (by decide) hm
  generalize 2 ^ m = z at *
  unfold wrap64; omega
theorem shl_m' (m : Nat) (hm : m ≤ 12) : wrap64 (2 ^ min (IntKind.u64.wrap (m : Int)).toNat 64) = ((2 ^ m : Nat) : Int) := by
  rw [IntWalk.u64_in _ (by omega), Int.toNat_natCast, Nat.min_eq_left (by omega)]
  exact shl_m m hm

set_option maxHeartbeats 4000000 in
theorem RLeast_any (o : Prob) (ao bo : Option Addr) (ca cb : Nat) (w : World) (ho : IsProb w o ao bo) (hsm : o.arcs.length ≤ 12 ∨ 16 < o.arcs.length) :
    Calls Try.prog 61 #[probV o ao ca bo cb] w (PairErr (LeastR o).1 (LeastR o).2 w) := by
  have HO := Lib.hid ho
  clear ho
  obtain ⟨r1, hr1⟩ : ∃ r, (LeastR o).1 = r := ⟨_, rfl⟩
  obtain ⟨r2, hr2⟩ : ∃ r, (LeastR o).2 = r := ⟨_, rfl⟩
  rw [hr1, hr2]
  have HR1 := Lib.hid hr1
  have HR2 := Lib.hid hr2
  clear hr1 hr2
  have HSM := Lib.hid hsm
  clear hsm
  go_enter Try.func61, Try.ntmps61
  go_wp2_with fail
  obtain ⟨w0, e0, hk0, hb0, -⟩ := alloc_prob w o.N o.arcs o.near ao ca bo cb
  rw [e0]
  clear e0
  have HK0 := Lib.hid hk0
  have HB0 := Lib.hid hb0
  clear hk0
  obtain ⟨q0, q1, q2⟩ := hb0
  have qb := lt_of_cell q0
  go_wp2_with fail
  clear q0 q1 q2 qb
  refine (RCheck_any o ao bo ca cb w0 (HO.out.kept HK0.out)).mono ?_
  rintro e w1 ⟨rfl, hk⟩
  have HK1 := Lib.hid (HK0.out.trans hk)
  have HB1 := Lib.hid (HB0.out.kept hk)
  clear hk HK0 HB0
  by_cases hc : chk o = 0
  case neg =>
    have HX : Hid ([] = r1 ∧ chk o = r2) := Lib.hid (by rw [← HR1.out, ← HR2.out]; unfold LeastR; rw [if_neg hc]; exact ⟨rfl, rfl⟩)
    have e1 : (chk o != 0) = true := by simp [hc]
    clear hc
    go_wp2
    go_ret2
    rw [← HX.out.1, ← HX.out.2]
    exact ⟨none, 0, rfl, Pairs.nil _ _, HK1.out⟩
  have HC := Lib.hid hc
  have HRR : Hid (LeastR o = if 8 < o.N ∨ 16 < o.arcs.length then ([], 2) else (pickT o.arcs (leastOf (okC o) o.arcs.length) o.arcs.length, 0)) := Lib.hid (by unfold LeastR; rw [if_pos hc])
  rw [hc]
  clear hc
  obtain ⟨q0, q1, q2⟩ := HB1.out
  have qb := lt_of_cell q0
  by_cases h8 : 8 < o.N
  · have HX : Hid ([] = r1 ∧ 2 = r2) := Lib.hid (by rw [← HR1.out, ← HR2.out, HRR.out, if_pos (.inl h8)]; exact ⟨rfl, rfl⟩)
    have e1 : decide (o.N > 8) = true := decide_eq_true h8
    clear h8
    go_wp2
    go_ret2
    rw [← HX.out.1, ← HX.out.2]
    exact ⟨none, 0, rfl, Pairs.nil _ _, HK1.out⟩
  have e1 : decide (o.N > 8) = false := decide_eq_false h8
  by_cases h16 : 16 < o.arcs.length
  · have HX : Hid ([] = r1 ∧ 2 = r2) := Lib.hid (by rw [← HR1.out, ← HR2.out, HRR.out, if_pos (.inr h16)]; exact ⟨rfl, rfl⟩)
    have e2 : decide ((o.arcs.length : Int) > 16) = true := decide_eq_true (by omega)
    have e3 : decide (16 < o.arcs.length) = true := decide_eq_true h16
    clear h8 h16
    go_wp2
    go_ret2
    rw [← HX.out.1, ← HX.out.2]
    exact ⟨none, 0, rfl, Pairs.nil _ _, HK1.out⟩
  have e2 : decide ((o.arcs.length : Int) > 16) = false := decide_eq_false (by omega)
  have e3 : decide (16 < o.arcs.length) = false := decide_eq_false h16
  have HX : Hid (pickT o.arcs (leastOf (okC o) o.arcs.length) o.arcs.length = r1 ∧ 0 = r2) := Lib.hid (by rw [← HR1.out, ← HR2.out, HRR.out, if_neg (fun h => h.elim h8 h16)]; exact ⟨rfl, rfl⟩)
  have hm12 : o.arcs.length ≤ 12 := by have := HSM.out; omega
  have HALL := Lib.hid (okC_all HC.out)
  have HM12 := Lib.hid hm12
  have hM : 2 ^ o.arcs.length ≤ 4096 := Nat.pow_le_pow_right (by decide) hm12
  have hsh1 := shl_m o.arcs.length hm12
  have hsh2 := shl_m' o.arcs.length hm12
  obtain ⟨M, hMM⟩ : ∃ M, 2 ^ o.arcs.length = M := ⟨_, rfl⟩
  rw [hMM] at hM hsh1 hsh2
  have HM := Lib.hid hMM
  clear h8 h16 hMM HSM HRR
  go_wp2
  clear q0 q1 q2 qb e1 e2 e3
  go_loopw [5, 6, 7] (fun bv sv iv wr => ∃ (S : Nat) (b : Bool) (bl : List Nat) (ba : Option Addr) (bc : Nat), S ≤ M ∧ iv = .int .i64 S ∧ sv = .bool b ∧ bv = .slice ba bl.length bc ∧ Ints wr ba (toI bl) ∧ bl.length ≤ 12 ∧ BestI (okC o) o.arcs.length S b bl ∧ Kept w1 wr) (fun _ _ i _ => M - (intOf i).toNat)
  case atStart => exact ⟨0, false, [], none, 0, Nat.zero_le _, rfl, rfl, rfl, Ints.nil _ _, Nat.zero_le _, BestI.zero _, Kept.refl _⟩
  case round =>
    obtain ⟨S, b, bl, ba, bc, hS, rfl, rfl, rfl, hib, hbl, hbest, hkw⟩ := hrel
    have HIB := Lib.hid hib
    have HBL := Lib.hid hbl
    have HBE := Lib.hid hbest
    have HKW := Lib.hid hkw
    clear hib hbl hbest hkw
    obtain ⟨q0, q1, q2⟩ := HB1.out.kept HKW.out
    have qb := lt_of_cell q0
    by_cases hlt : S < M
    · have HLT := Lib.hid hlt
      have hS4 : S < 4096 := by omega
      have e1 : decide ((S : Int) < (M : Int)) = true := decide_eq_true (by omega)
      clear hS hlt
      go_wp2_with fail
      clear q0 q1 q2 qb e1
      refine (Rmembs_any o.arcs.length S HM12.out (by rw [HM.out]; exact HLT.out) wr).mono ?_
      rintro e w2 ⟨v, rfl, ⟨la, lc, rfl, -, hil, -⟩, hk2⟩
      have HLL := Lib.hid (membs_len o.arcs.length S)
      have HIL := Lib.hid hil
      have HIB2 := Lib.hid (HIB.out.kept hk2)
      have HK2 := Lib.hid (HKW.out.trans hk2)
      clear hil hk2 HIB HKW
      rw [toI_len]
      have HOKS : Hid (okC o (membs o.arcs.length S) = !circB (webOf ⟨o.N, keepT o.arcs (membs o.arcs.length S) o.arcs.length, o.near⟩)) := Lib.hid (okC_near o _)
      have HCHK := Lib.hid (chk_keep HC.out (membs o.arcs.length S))
      generalize hms : membs o.arcs.length S = ms at *
      have HMS := Lib.hid hms
      clear hms
      cases b
      · go_wp2_with fail
        have hF := Rless_any ms bl la ba lc bc w2 HIL.out HIB2.out (by have := HLL.out; have := HM12.out; omega) (by have := HBL.out; omega)
        obtain ⟨ls, hls⟩ : ∃ ls, lessB ms bl = ls := ⟨_, rfl⟩
        rw [hls] at hF
        have HLS := Lib.hid hls
        clear hls
        refine hF.mono ?_
        clear hF
        rintro e w3 ⟨rfl, hk3⟩
        have HK3 := Lib.hid (HK2.out.trans hk3)
        have HIB3 := Lib.hid (HIB2.out.kept hk3)
        have HIL3 := Lib.hid (HIL.out.kept hk3)
        clear hk3
        obtain ⟨q0, q1, q2⟩ := HB1.out.kept HK3.out
        have qb := lt_of_cell q0
        go_wp2_with fail
        clear q0 q1 q2 qb
        have hF := RWithout_any o ao bo ca cb S w3 (HO.out.kept (HK1.out.trans HK3.out)) HM12.out (by rw [HM.out]; exact HLT.out)
        rw [HMS.out] at hF
        refine hF.mono ?_
        clear hF
        rintro e w4 ⟨pa, pc, rfl, hip, hk4⟩
        have HIP := Lib.hid hip
        have HK4 := Lib.hid (HK3.out.trans hk4)
        have HIB4 := Lib.hid (HIB3.out.kept hk4)
        have HIL4 := Lib.hid (HIL3.out.kept hk4)
        clear hip hk4
        go_wp2_with fail
        obtain ⟨r, hr⟩ : ∃ r, circB (webOf ⟨o.N, keepT o.arcs ms o.arcs.length, o.near⟩) = r := ⟨_, rfl⟩
        have hF := Rcircular_any _ pa bo pc cb w4 HIP.out HCHK.out
        rw [hr] at hF
        have HROK : Hid (okC o ms = !r) := Lib.hid (by rw [HOKS.out, hr])
        clear hr
        refine hF.mono ?_
        clear hF
        rintro e w5 ⟨rfl, hk5⟩
        have HK5 := Lib.hid (HK4.out.trans hk5)
        have HIB5 := Lib.hid (HIB4.out.kept hk5)
        have HIL5 := Lib.hid (HIL4.out.kept hk5)
        clear hk5
        cases r
        · have HBN : Hid (BestI (okC o) o.arcs.length (S + 1) true ms) := Lib.hid (by
            have h := HBE.out.first (by rw [HMS.out, HROK.out]; rfl)
            rw [HMS.out] at h
            exact h)
          go_wp2
          go_roundw
          case measure => have := HLT.out; simp [intOf] <;> omega
          case rel => exact ⟨S + 1, true, ms, la, lc, HLT.out, by go_num, rfl, rfl, HIL5.out, by have := HLL.out; have := HM12.out; omega, HBN.out, HK5.out⟩
        · have HBN := Lib.hid (HBE.out.bad (by rw [HMS.out, HROK.out]; rfl))
          go_wp2
          go_roundw
          case measure => have := HLT.out; simp [intOf] <;> omega
          case rel => exact ⟨S + 1, _, bl, ba, bc, HLT.out, by go_num, rfl, rfl, HIB5.out, HBL.out, HBN.out, HK5.out⟩
      · by_cases hlong : bl.length < ms.length
        · have e1 : decide ((ms.length : Int) > (bl.length : Int)) = true := decide_eq_true (by omega)
          have e2 : decide (bl.length < ms.length) = true := decide_eq_true hlong
          have HBN := Lib.hid (HBE.out.longer (by rw [HMS.out]; exact hlong))
          clear hlong
          go_wp2
          go_roundw
          case measure => have := HLT.out; simp [intOf] <;> omega
          case rel => exact ⟨S + 1, true, bl, ba, bc, HLT.out, by go_num, rfl, rfl, HIB2.out, HBL.out, HBN.out, HK2.out⟩
        · have e1 : decide ((ms.length : Int) > (bl.length : Int)) = false := decide_eq_false (by omega)
          have e2 : decide (bl.length < ms.length) = false := decide_eq_false hlong
          have HLO := Lib.hid hlong
          clear hlong
          go_wp2_with fail
          have hF := Rless_any ms bl la ba lc bc w2 HIL.out HIB2.out (by have := HLL.out; have := HM12.out; omega) (by have := HBL.out; omega)
          obtain ⟨ls, hls⟩ : ∃ ls, lessB ms bl = ls := ⟨_, rfl⟩
          rw [hls] at hF
          have HLS := Lib.hid hls
          clear hls
          refine hF.mono ?_
          clear hF
          rintro e w3 ⟨rfl, hk3⟩
          have HK3 := Lib.hid (HK2.out.trans hk3)
          have HIB3 := Lib.hid (HIB2.out.kept hk3)
          have HIL3 := Lib.hid (HIL.out.kept hk3)
          clear hk3
          clear e1 e2
          by_cases hq : bl.length = ms.length
          · have e3 : ((ms.length : Int) == (bl.length : Int)) = true := by simp; omega
            have e4 : (ms.length == bl.length) = true := by simp; omega
            have e5 : decide (ms.length = bl.length) = true := decide_eq_true hq.symm
            cases ls
            · have HBN := Lib.hid (HBE.out.later (by rw [HMS.out]; exact hq) (by rw [HMS.out]; exact HLS.out))
              clear hq
              go_wp2
              go_roundw
              case measure => have := HLT.out; simp [intOf] <;> omega
              case rel => exact ⟨S + 1, true, bl, ba, bc, HLT.out, by go_num, rfl, rfl, HIB3.out, HBL.out, HBN.out, HK3.out⟩
            · clear hq
              obtain ⟨q0, q1, q2⟩ := HB1.out.kept HK3.out
              have qb := lt_of_cell q0
              go_wp2_with fail
              clear q0 q1 q2 qb
              have hF := RWithout_any o ao bo ca cb S w3 (HO.out.kept (HK1.out.trans HK3.out)) HM12.out (by rw [HM.out]; exact HLT.out)
              rw [HMS.out] at hF
              refine hF.mono ?_
              clear hF
              rintro e w4 ⟨pa, pc, rfl, hip, hk4⟩
              have HIP := Lib.hid hip
              have HK4 := Lib.hid (HK3.out.trans hk4)
              have HIB4 := Lib.hid (HIB3.out.kept hk4)
              have HIL4 := Lib.hid (HIL3.out.kept hk4)
              clear hip hk4
              go_wp2_with fail
              obtain ⟨r, hr⟩ : ∃ r, circB (webOf ⟨o.N, keepT o.arcs ms o.arcs.length, o.near⟩) = r := ⟨_, rfl⟩
              have hF := Rcircular_any _ pa bo pc cb w4 HIP.out HCHK.out
              rw [hr] at hF
              have HROK : Hid (okC o ms = !r) := Lib.hid (by rw [HOKS.out, hr])
              clear hr
              refine hF.mono ?_
              clear hF
              rintro e w5 ⟨rfl, hk5⟩
              have HK5 := Lib.hid (HK4.out.trans hk5)
              have HIB5 := Lib.hid (HIB4.out.kept hk5)
              have HIL5 := Lib.hid (HIL4.out.kept hk5)
              clear hk5
              cases r
              · have HBN : Hid (BestI (okC o) o.arcs.length (S + 1) true ms) := Lib.hid (by
                  have h := HBE.out.better (by rw [HMS.out, HROK.out]; rfl) (by rw [HMS.out]; exact HLO.out) (fun h => by rw [HMS.out, HLS.out] at h; exact absurd h.2 (by simp))
                  rw [HMS.out] at h
                  exact h)
                go_wp2
                go_roundw
                case measure => have := HLT.out; simp [intOf] <;> omega
                case rel => exact ⟨S + 1, true, ms, la, lc, HLT.out, by go_num, rfl, rfl, HIL5.out, by have := HLL.out; have := HM12.out; omega, HBN.out, HK5.out⟩
              · have HBN := Lib.hid (HBE.out.bad (by rw [HMS.out, HROK.out]; rfl))
                go_wp2
                go_roundw
                case measure => have := HLT.out; simp [intOf] <;> omega
                case rel => exact ⟨S + 1, _, bl, ba, bc, HLT.out, by go_num, rfl, rfl, HIB5.out, HBL.out, HBN.out, HK5.out⟩
          · have e3 : ((ms.length : Int) == (bl.length : Int)) = false := by simp; omega
            have e4 : (ms.length == bl.length) = false := by simp; omega
            have e5 : decide (ms.length = bl.length) = false := decide_eq_false (fun h => hq h.symm)
            have HQ := Lib.hid hq
            clear hq
            obtain ⟨q0, q1, q2⟩ := HB1.out.kept HK3.out
            have qb := lt_of_cell q0
            go_wp2_with fail
            clear q0 q1 q2 qb
            have hF := RWithout_any o ao bo ca cb S w3 (HO.out.kept (HK1.out.trans HK3.out)) HM12.out (by rw [HM.out]; exact HLT.out)
            rw [HMS.out] at hF
            refine hF.mono ?_
            clear hF
            rintro e w4 ⟨pa, pc, rfl, hip, hk4⟩
            have HIP := Lib.hid hip
            have HK4 := Lib.hid (HK3.out.trans hk4)
            have HIB4 := Lib.hid (HIB3.out.kept hk4)
            have HIL4 := Lib.hid (HIL3.out.kept hk4)
            clear hip hk4
            go_wp2_with fail
            obtain ⟨r, hr⟩ : ∃ r, circB (webOf ⟨o.N, keepT o.arcs ms o.arcs.length, o.near⟩) = r := ⟨_, rfl⟩
            have hF := Rcircular_any _ pa bo pc cb w4 HIP.out HCHK.out
            rw [hr] at hF
            have HROK : Hid (okC o ms = !r) := Lib.hid (by rw [HOKS.out, hr])
            clear hr
            refine hF.mono ?_
            clear hF
            rintro e w5 ⟨rfl, hk5⟩
            have HK5 := Lib.hid (HK4.out.trans hk5)
            have HIB5 := Lib.hid (HIB4.out.kept hk5)
            have HIL5 := Lib.hid (HIL4.out.kept hk5)
            clear hk5
            cases r
            · have HBN : Hid (BestI (okC o) o.arcs.length (S + 1) true ms) := Lib.hid (by
                have h := HBE.out.better (by rw [HMS.out, HROK.out]; rfl) (by rw [HMS.out]; exact HLO.out) (fun h => by rw [HMS.out] at h; exact HQ.out h.1)
                rw [HMS.out] at h
                exact h)
              go_wp2
              go_roundw
              case measure => have := HLT.out; simp [intOf] <;> omega
              case rel => exact ⟨S + 1, true, ms, la, lc, HLT.out, by go_num, rfl, rfl, HIL5.out, by have := HLL.out; have := HM12.out; omega, HBN.out, HK5.out⟩
            · have HBN := Lib.hid (HBE.out.bad (by rw [HMS.out, HROK.out]; rfl))
              go_wp2
              go_roundw
              case measure => have := HLT.out; simp [intOf] <;> omega
              case rel => exact ⟨S + 1, _, bl, ba, bc, HLT.out, by go_num, rfl, rfl, HIB5.out, HBL.out, HBN.out, HK5.out⟩
    · obtain rfl : S = M := by omega
      have e1 : decide ((S : Int) < (S : Int)) = false := decide_eq_false (by omega)
      have hfin := HBE.out
      rw [← HM.out] at hfin
      obtain ⟨hbt, hlst⟩ := hfin.final (by have := HM12.out; omega) HALL.out
      have hlo := (leastOf_is HALL.out).eq hlst
      have HPK : Hid (bl.map (fun i => o.arcs.getD i (0, 0)) = r1) := Lib.hid (by
        rw [← HX.out.1, hlo]
        exact (pickT_list hlst.comb).symm)
      have HBH := Lib.hid hlst.comb.hi
      subst hbt
      clear hfin hlst hlo hlt hS
      go_wp2
      clear q0 q1 q2 qb e1
      obtain ⟨bs, hbs⟩ : ∃ bs, wr.heap.size = bs := ⟨_, rfl⟩
      have HBS := Lib.hid hbs
      clear hbs
      go_loopw [11, 12] (fun v i wi => ∃ k : Nat, k ≤ bl.length ∧ i = .int .i64 k ∧ OwnG wi bs 83 2 pairC v ((bl.take k).map fun i => o.arcs.getD i (0, 0)) ∧ Kept wr wi) (fun _ i _ => bl.length - (intOf i).toNat)
      case atStart => exact ⟨0, Nat.zero_le _, rfl, OwnG.nil _ _ _ _ _, Kept.refl _⟩
      case round =>
        obtain ⟨k, hk, rfl, hown, hki⟩ := hrel
        have HOW := Lib.hid hown
        have HKI := Lib.hid hki
        clear hown hki
        have hbl12 := HBL.out
        by_cases hkl : k < bl.length
        · have HKL := Lib.hid hkl
          obtain ⟨B, off, rfl, hcb⟩ := (HIB.out.kept HKI.out) k (by rw [toI_len]; exact hkl)
          rw [toI_get] at hcb
          have hin : bl[k] < o.arcs.length := HBH.out _ (List.getElem_mem hkl)
          have HNX : Hid ((bl.take (k + 1)).map (fun i => o.arcs.getD i (0, 0)) = (bl.take k).map (fun i => o.arcs.getD i (0, 0)) ++ [o.arcs[bl[k]]]) := Lib.hid (by
            rw [List.take_succ_eq_append_getElem hkl, List.map_append]
            show _ ++ [o.arcs.getD bl[k] (0, 0)] = _
            rw [List.getD_eq_getElem?_getD, List.getElem?_eq_getElem hin]; rfl)
          generalize bl[k] = j at *
          obtain ⟨B2, off2, rfl, c0, c1⟩ := (HO.out.kept ((HK1.out.trans HKW.out).trans HKI.out)).arcs j hin
          generalize o.arcs[j] = x at *
          obtain ⟨x1, x2⟩ := x
          simp only at c0 c1
          obtain ⟨q0, q1, q2⟩ := HB1.out.kept (HKW.out.trans HKI.out)
          have qb := lt_of_cell q0
          have HLN : Hid (((bl.take k).map fun i => o.arcs.getD i (0, 0)).length < 1000) := Lib.hid (by rw [List.length_map, List.length_take]; omega)
          obtain ⟨va, vc, rfl, -, -⟩ := HOW.out.prs
          generalize (bl.take k).map (fun i => o.arcs.getD i (0, 0)) = pre at *
          go_wp2
          go_region_law (refine step_app2 rfl (.tmp 74) (.tmp 83) rfl bs (.slice va pre.length vc) pre (by first | exact HOW.out.kept ((Kept.refl _).alloc _).drew | exact HOW.out.kept ((Kept.refl _).drew.alloc _)) (by simp [Act.eval]) (x1, x2) wr.heap.size 1 (by simp [Act.eval]) (by constructor <;> simp [go_sem]) (by have := HLN.out; omega) (by have := HKI.out.size; have := HBS.out; simp; omega) ?_; intro v' w8 hown4 hg4; have HO4 := Lib.hid hown4; have HG4 := Lib.hid hg4; clear hown4 hg4)
          all_goals
            go_wp2
            go_roundw
            case measure => have := HKL.out; simp [intOf] <;> omega
            case rel =>
              have hKK : Kept wr (wr.alloc (.cells #[.int .i64 x1, .int .i64 x2] 83)).drew := ((Kept.refl _).alloc _).drew
              exact ⟨k + 1, HKL.out, by go_num, by rw [HNX.out]; exact HO4.out, (HKI.out.trans hKK).grown HG4.out (fun r e => by have := (HOW.out.lt r e).1; have := HBS.out; omega)⟩
        · obtain rfl : k = bl.length := by omega
          have HOE := HOW.out
          rw [List.take_length, HPK.out] at HOE
          obtain ⟨pa, pc, rfl, hpx, -⟩ := HOE.prs
          have HPX := Lib.hid hpx
          clear hpx HOE hkl hk
          go_wp2
          go_ret2
          rw [← HX.out.2]
          exact ⟨pa, pc, rfl, HPX.out, HK1.out.trans (HKW.out.trans HKI.out)⟩
end Go.Proofs.Yteljjkghjbofnaa
