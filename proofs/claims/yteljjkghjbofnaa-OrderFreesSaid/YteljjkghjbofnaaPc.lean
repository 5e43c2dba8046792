/- ref.free, ref.Free. -/
import Derived.Test.YteljjkghjbofnaaPb
import Derived.Test.YteljjkghjbofnaaWd
set_option maxRecDepth 100000
namespace Go.Proofs.Yteljjkghjbofnaa
open Go Go.Proofs Go.RowKit
attribute [local go_sem] Oper.semAt_some

/-- Is the set s free in the table M? -/
def okM (n : Nat) (M : Mx) (s : Nat) : Bool := (List.range n).all fun a => (List.range n).all fun b => !(hasS (BitVec.ofNat 32 s) a && hasS (BitVec.ofNat 32 s) b && M a b)
theorem okM_iff {n : Nat} {M : Mx} {s : Nat} : okM n M s = true ↔ ∀ a, a < n → ∀ b, b < n → (hasS (BitVec.ofNat 32 s) a && hasS (BitVec.ofNat 32 s) b && M a b) = false := by
  unfold okM
  simp only [List.all_eq_true, List.mem_range, Bool.not_eq_true']
theorem okM_no {n : Nat} {M : Mx} {s a b : Nat} (ha : a < n) (hb : b < n) (h : (hasS (BitVec.ofNat 32 s) a && hasS (BitVec.ofNat 32 s) b && M a b) = true) : okM n M s = false := by
  cases he : okM n M s
  · rfl
  · rw [okM_iff.1 he a ha b hb] at h; cases h
theorem okM_okA {W : Web} {M : Mx} (h : ∀ a b, a < W.n → b < W.n → M a b = hasS (W.reach a) b) (s : Nat) : okM W.n M s = okA W (membs W.n s) := by
  have e : okM W.n M s = true ↔ okA W (membs W.n s) = true := by
    rw [okM_iff, okA_iff]
    unfold membs
    constructor
    · intro h1 x hx y hy
      have hx' := List.mem_filter.1 hx
      have hy' := List.mem_filter.1 hy
      have h2 := h1 x (List.mem_range.1 hx'.1) y (List.mem_range.1 hy'.1)
      rw [hx'.2, hy'.2, h x y (List.mem_range.1 hx'.1) (List.mem_range.1 hy'.1)] at h2
      simpa using h2
    · intro h1 a ha b hb
      cases h2 : hasS (BitVec.ofNat 32 s) a
      · rfl
      · cases h3 : hasS (BitVec.ofNat 32 s) b
        · rfl
        · rw [h a b ha hb, h1 a (List.mem_filter.2 ⟨List.mem_range.2 ha, h2⟩) b (List.mem_filter.2 ⟨List.mem_range.2 hb, h3⟩)]
          rfl
  cases h1 : okM W.n M s
  · cases h2 : okA W (membs W.n s)
    · rfl
    · rw [e.2 h2] at h1; cases h1
  · rw [e.1 h1]

set_option maxHeartbeats 1600000 in
theorem Rfreeset_any (n s t : Nat) (g : Nat → Nat) (M : Mx) (base : Nat) (w : World) (hn : n ≤ 12) (hs : s < 4096) (hm : Mat w base t g n M) :
    Calls Try.prog 128 #[.slice (some ⟨t, 0, none⟩) n n, .int .i64 s] w (Gives (.bool (okM n M s)) w) := by
  have HM := Lib.hid hm
  clear hm
  obtain ⟨R, hR⟩ : ∃ R, okM n M s = R := ⟨_, rfl⟩
  rw [hR]
  have HR := Lib.hid hR
  clear hR
  go_enter Try.func128, Try.ntmps128
  go_wp2
  go_loop [5] (fun i => ∃ k : Nat, k ≤ n ∧ i = .int .i64 k ∧ ∀ a, a < k → ∀ b, b < n → (hasS (BitVec.ofNat 32 s) a && hasS (BitVec.ofNat 32 s) b && M a b) = false) (fun i => n - (intOf i).toNat)
  case atStart => exact ⟨0, Nat.zero_le _, rfl, fun a h => by omega⟩
  case round =>
    obtain ⟨k, hk, rfl, hno⟩ := hrel
    have HNO := Lib.hid hno
    clear hno
    by_cases hlt : k < n
    case pos =>
      have HLT := Lib.hid hlt
      have hka := bit_is s k hs
      go_wp2
      go_loop [6] (fun i => ∃ b : Nat, b ≤ n ∧ i = .int .i64 b ∧ ∀ b', b' < b → (hasS (BitVec.ofNat 32 s) k && hasS (BitVec.ofNat 32 s) b' && M k b') = false) (fun i => n - (intOf i).toNat)
      case atStart => exact ⟨0, Nat.zero_le _, rfl, fun a h => by omega⟩
      case round =>
        obtain ⟨b, hb, rfl, hno⟩ := hrel
        have HNB := Lib.hid hno
        clear hno
        by_cases hlb : b < n
        case pos =>
          have HLB := Lib.hid hlb
          have hkb := bit_is s b hs
          have r0 := HM.out.row k hlt
          have rb := lt_of_cell r0
          have v0 := HM.out.val k b hlt hlb
          have vb := lt_of_cell v0
          have HGO : Hid ((hasS (BitVec.ofNat 32 s) k && hasS (BitVec.ofNat 32 s) b && M k b) = false → ∀ b', b' < b + 1 → (hasS (BitVec.ofNat 32 s) k && hasS (BitVec.ofNat 32 s) b' && M k b') = false) := Lib.hid fun h b' hb' => by
            rcases Nat.lt_or_eq_of_le (Nat.le_of_lt_succ hb') with h2 | h2
            · exact HNB.out b' h2
            · rw [h2]; exact h
          have HBAD : Hid ((hasS (BitVec.ofNat 32 s) k && hasS (BitVec.ofNat 32 s) b && M k b) = true → false = R) := Lib.hid fun h => by rw [← HR.out]; exact (okM_no hlt hlb h).symm
          generalize hasS (BitVec.ofNat 32 s) k = ba at *
          generalize hasS (BitVec.ofNat 32 s) b = bb at *
          generalize M k b = m at *
          cases ba
          · go_wp2
            go_round
            case measure => have := HLB.out; simp [intOf] <;> omega
            case rel => exact ⟨b + 1, HLB.out, by go_num, HGO.out rfl⟩
          · cases bb
            · go_wp2
              go_round
              case measure => have := HLB.out; simp [intOf] <;> omega
              case rel => exact ⟨b + 1, HLB.out, by go_num, HGO.out rfl⟩
            · cases m
              · go_wp2
                go_round
                case measure => have := HLB.out; simp [intOf] <;> omega
                case rel => exact ⟨b + 1, HLB.out, by go_num, HGO.out rfl⟩
              · go_wp2
                go_ret
                exact ⟨ret_bool (HBAD.out rfl), Kept.refl _⟩
        obtain rfl : b = n := by omega
        have HGO : Hid (∀ a, a < k + 1 → ∀ b', b' < b → (hasS (BitVec.ofNat 32 s) a && hasS (BitVec.ofNat 32 s) b' && M a b') = false) := Lib.hid fun a ha b' hb' => by
          rcases Nat.lt_or_eq_of_le (Nat.le_of_lt_succ ha) with h2 | h2
          · exact HNO.out a h2 b' hb'
          · rw [h2]; exact HNB.out b' hb'
        go_wp2
        go_round
        case measure => have := HLT.out; simp [intOf] <;> omega
        case rel => exact ⟨k + 1, HLT.out, by go_num, HGO.out⟩
    obtain rfl : k = n := by omega
    have HX : Hid (true = R) := Lib.hid (by rw [← HR.out]; exact (okM_iff.2 HNO.out).symm)
    go_wp2
    go_ret
    exact ⟨ret_bool HX.out, Kept.refl _⟩

theorem freeL_toI (l : List Nat) : (l.map fun i : Nat => (i : Int)) = toI l := rfl

set_option maxHeartbeats 4000000 in
theorem RFree_any (o : Prob) (ao bo : Option Addr) (ca cb : Nat) (w : World) (ho : IsProb w o ao bo) (hsm : o.N ≤ 9 ∨ 24 < o.N) :
    Calls Try.prog 65 #[probV o ao ca bo cb] w (ListErr (FreeR o).1 (FreeR o).2 w) := by
  have HO := Lib.hid ho
  clear ho
  obtain ⟨r1, hr1⟩ : ∃ r, (FreeR o).1 = r := ⟨_, rfl⟩
  obtain ⟨r2, hr2⟩ : ∃ r, (FreeR o).2 = r := ⟨_, rfl⟩
  rw [hr1, hr2]
  have HR1 := Lib.hid hr1
  have HR2 := Lib.hid hr2
  clear hr1 hr2
  have HSM := Lib.hid hsm
  clear hsm
  go_enter Try.func65, Try.ntmps65
  go_wp2_with fail
  obtain ⟨w0, e0, hk0, hb0, -⟩ := alloc_prob w o.N o.arcs o.near ao ca bo cb
  rw [e0]
  clear e0
  have HK0 := Lib.hid hk0
  have HB0 := Lib.hid hb0
  clear hk0
  obtain ⟨q0, q1, q2⟩ := hb0
  have qb := lt_of_cell q0
  go_wp2_with fail
  clear q0 q1 q2 qb
  refine (RCheck_any o ao bo ca cb w0 (HO.out.kept HK0.out)).mono ?_
  rintro e w1 ⟨rfl, hk⟩
  have HK1 := Lib.hid (HK0.out.trans hk)
  have HB1 := Lib.hid (HB0.out.kept hk)
  clear hk HK0 HB0
  by_cases hc : chk o = 0
  case neg =>
    have HX : Hid ([] = r1 ∧ chk o = r2) := Lib.hid (by
      have h : errS o = chk o := by unfold errS; rw [if_neg hc]
      rw [← HR1.out, ← HR2.out]; unfold FreeR; rw [h, if_neg hc]; exact ⟨rfl, rfl⟩)
    have e1 : (chk o != 0) = true := by simp [hc]
    clear hc
    go_wp2
    go_ret2
    rw [← HX.out.1, ← HX.out.2]
    exact ⟨_, rfl, NewI.nil _ _, HK1.out⟩
  have HC := Lib.hid hc
  have e1 : (chk o != 0) = false := by simp [hc]
  clear hc
  obtain ⟨q0, q1, q2⟩ := HB1.out
  have qb := lt_of_cell q0
  go_wp2_with fail
  clear q0 q1 q2 qb e1
  have hF := Rcircular_any o ao bo ca cb w1 (HO.out.kept HK1.out) HC.out
  obtain ⟨cb', hcb⟩ : ∃ r, circB (webOf o) = r := ⟨_, rfl⟩
  rw [hcb] at hF
  have HCB := Lib.hid hcb
  clear hcb
  refine hF.mono ?_
  clear hF
  rintro e w2 ⟨rfl, hk⟩
  have HK2 := Lib.hid (HK1.out.trans hk)
  have HB2 := Lib.hid (HB1.out.kept hk)
  clear hk HK1 HB1
  cases cb'
  case true =>
    have HX : Hid ([] = r1 ∧ 50 = r2) := Lib.hid (by
      have h : errS o = 50 := by unfold errS; rw [if_pos HC.out, HCB.out]; rfl
      rw [← HR1.out, ← HR2.out]; unfold FreeR; rw [h, if_neg (by decide)]; exact ⟨rfl, rfl⟩)
    go_wp2
    go_ret2
    rw [← HX.out.1, ← HX.out.2]
    exact ⟨_, rfl, NewI.nil _ _, HK2.out⟩
  have HX : Hid (freeL (webOf o) = r1 ∧ 0 = r2) := Lib.hid (by
    have h : errS o = 0 := by unfold errS; rw [if_pos HC.out, HCB.out]; rfl
    rw [← HR1.out, ← HR2.out]; unfold FreeR; rw [if_pos h]; exact ⟨rfl, rfl⟩)
  obtain ⟨q0, q1, q2⟩ := HB2.out
  have qb := lt_of_cell q0
  go_wp2_with fail
  clear q0 q1 q2 qb
  refine (Chained_any o ao bo ca cb w2 (HO.out.kept HK2.out) HC.out).mono ?_
  rintro e w3 ⟨t, g, rfl, hm, hk⟩
  have HK3 := Lib.hid (HK2.out.trans hk)
  have HB3 := Lib.hid (HB2.out.kept hk)
  have HM := Lib.hid hm
  clear hm hk HK2 HB2
  have hN := webOf_nI HC.out
  have h24 := webOf_n HC.out
  have hn9 : (webOf o).n ≤ 9 := by have := HSM.out; omega
  have HOK : Hid (∀ s, okM (webOf o).n (chM (arcsM o.arcs) (webOf o).n) s = okA (webOf o) (membs (webOf o).n s)) := Lib.hid fun s => okM_okA (fun a b ha _ => chM_reach HC.out ha) s
  have HFR : Hid (∀ best, BestG (webOf o) (2 ^ (webOf o).n) best → toI best = r1) := Lib.hid fun best h => (free_ref (by omega) (woven_of o) HCB.out h).symm.trans HX.out.1
  have HX2 := Lib.hid HX.out.2
  clear HX HSM HCB
  have q0 := HB3.out.c0
  have HB4 : Hid (∀ X, Kept w3 X → X.cell? ⟨w.heap.size, 0, none⟩ = some (.int .i64 ((webOf o).n : Int))) := Lib.hid fun X hX => by
    have := (HB3.out.kept hX).c0
    rw [hN]
    exact this
  clear q0 HB3
  generalize webOf o = W at *
  generalize chM (arcsM o.arcs) W.n = M at *
  obtain ⟨n, hn⟩ : ∃ n, W.n = n := ⟨_, rfl⟩
  rw [hn] at HM HB4 hn9 h24 HOK HFR ⊢
  have HN := Lib.hid hn
  clear hn hN
  have hM : 2 ^ n ≤ 512 := Nat.pow_le_pow_right (by decide) hn9
  have hsh1 := shl_m n (by omega)
  have hsh2 := shl_m' n (by omega)
  obtain ⟨N2, hNN⟩ : ∃ N2, 2 ^ n = N2 := ⟨_, rfl⟩
  rw [hNN] at hM hsh1 hsh2 HFR
  have HN2 := Lib.hid hNN
  clear hNN
  go_wp2
  go_loopw [7, 8] (fun bv iv wr => ∃ (S : Nat) (bl : List Nat) (bb : Value), S ≤ N2 ∧ iv = .int .i64 S ∧ bv = bb ∧ NewI w wr bb (toI bl) ∧ bl.length ≤ 9 ∧ BestG W S bl ∧ Kept w3 wr) (fun _ i _ => N2 - (intOf i).toNat)
  case atStart => exact ⟨0, [], _, Nat.zero_le _, rfl, rfl, NewI.nil _ _, Nat.zero_le _, BestG.zero, Kept.refl _⟩
  case round =>
    obtain ⟨S, bl, bb, hS, rfl, rfl, hib, hbl, hbest, hkw⟩ := hrel
    obtain ⟨ba, bc, rfl, hbn, hbi, hbz⟩ := hib
    rw [toI_len]
    have HBI := Lib.hid hbi
    have HBN := Lib.hid hbn
    have HBZ := Lib.hid hbz
    have HBL := Lib.hid hbl
    have HBE := Lib.hid hbest
    have HKW := Lib.hid hkw
    clear hbn hbi hbz hbl hbest hkw
    have q0 := HB4.out wr HKW.out
    have qb := lt_of_cell q0
    by_cases hlt : S < N2
    case pos =>
      have HLT := Lib.hid hlt
      have hS4 : S < 4096 := by omega
      have e1 : decide ((S : Int) < (N2 : Int)) = true := decide_eq_true (by omega)
      clear hS hlt
      go_wp2_with fail
      clear q0 qb e1
      refine (Rmembs_any n S (by omega) (by rw [HN2.out]; exact HLT.out) wr).mono ?_
      rintro e w4 ⟨v, rfl, ⟨la, lc, rfl, hln, hil, hlz⟩, hk4⟩
      have HLL := Lib.hid (membs_len n S)
      have HIL := Lib.hid hil
      have HIB4 := Lib.hid (HBI.out.kept hk4)
      have HK4 := Lib.hid (HKW.out.trans hk4)
      have HLN : Hid ((toI (membs n S)).length ≤ lc) := Lib.hid hln
      have HLZ : Hid (∀ (a : Addr), la = some a → w.heap.size ≤ a.block ∧ a.block < w4.heap.size ∧ a.spot = none ∧ ∀ (o : Nat), w4.frozen? ⟨a.block, o, none⟩ = false) := Lib.hid fun a h => by
        have h2 := hlz a h
        have h3 := HKW.out.size
        have h4 := HK3.out.size
        exact ⟨by omega, h2.2⟩
      have HBZ4 : Hid (∀ (a : Addr), ba = some a → w.heap.size ≤ a.block ∧ a.block < w4.heap.size ∧ a.spot = none ∧ ∀ (o : Nat), w4.frozen? ⟨a.block, o, none⟩ = false) := Lib.hid fun a h => by
        have h2 := HBZ.out a h
        have h3 := hk4.size
        exact ⟨h2.1, by omega, h2.2.2.1, fun o => (hk4.cells.2 a.block o h2.2.1).trans (h2.2.2.2 o)⟩
      clear hil hk4 hln hlz HBI HKW HBZ
      rw [toI_len]
      have HOKS := Lib.hid (HOK.out S)
      have HSK : Hid ((okA W (membs n S) = true → (membs n S).length < bl.length ∨ ((membs n S).length = bl.length ∧ lessB (membs n S) bl = false)) → BestG W (S + 1) bl) := Lib.hid fun h => HBE.out.skip (by rw [HN.out]; exact h)
      have HTK : Hid (okA W (membs n S) = true → bl.length ≤ (membs n S).length → ((membs n S).length = bl.length → lessB (membs n S) bl = true) → BestG W (S + 1) (membs n S)) := Lib.hid fun h1 h2 h3 => by
        have h := HBE.out.take (by rw [HN.out]; exact h1) (by rw [HN.out]; exact h2) (by rw [HN.out]; exact h3)
        rw [HN.out] at h
        exact h
      generalize membs n S = ms at *
      have NB : ∀ (X : World), Kept w4 X → NewI w X (.slice ba bl.length bc) (toI bl) := fun X hX => ⟨ba, bc, by rw [toI_len], HBN.out, HIB4.out.kept hX, fun a h => by
        have h2 := HBZ4.out a h
        have h3 := hX.size
        exact ⟨h2.1, by omega, h2.2.2.1, fun o => (hX.cells.2 a.block o h2.2.1).trans (h2.2.2.2 o)⟩⟩
      have NL : ∀ (X : World), Kept w4 X → NewI w X (.slice la ms.length lc) (toI ms) := fun X hX => ⟨la, lc, by rw [toI_len], HLN.out, HIL.out.kept hX, fun a h => by
        have h2 := HLZ.out a h
        have h3 := hX.size
        exact ⟨h2.1, by omega, h2.2.2.1, fun o => (hX.cells.2 a.block o h2.2.1).trans (h2.2.2.2 o)⟩⟩
      have HNB := Lib.hid NB
      have HNL := Lib.hid NL
      clear NB NL
      by_cases hlong : ms.length < bl.length
      · have e1 : decide ((ms.length : Int) < (bl.length : Int)) = true := decide_eq_true (by omega)
        have e2 : decide (ms.length < bl.length) = true := decide_eq_true hlong
        have HBN2 := Lib.hid (HSK.out fun _ => .inl hlong)
        clear hlong
        go_wp2
        go_roundw
        case measure => have := HLT.out; simp [intOf] <;> omega
        case rel => exact ⟨S + 1, bl, _, HLT.out, by go_num, rfl, HNB.out _ (Kept.refl _), HBL.out, HBN2.out, HK4.out⟩
      have e1 : decide ((ms.length : Int) < (bl.length : Int)) = false := decide_eq_false (by omega)
      have e2 : decide (ms.length < bl.length) = false := decide_eq_false hlong
      have HLO := Lib.hid hlong
      clear hlong
      go_wp2_with fail
      clear e1 e2
      have hF := Rless_any ms bl la ba lc bc w4 HIL.out HIB4.out (by have := HLL.out; omega) (by have := HBL.out; omega)
      obtain ⟨ls, hls⟩ : ∃ ls, lessB ms bl = ls := ⟨_, rfl⟩
      rw [hls] at hF HSK HTK
      clear hls
      refine hF.mono ?_
      clear hF
      rintro e w5 ⟨rfl, hk5⟩
      have HK45 := Lib.hid hk5
      have HK5 := Lib.hid (HK4.out.trans hk5)
      clear hk5
      by_cases hq : bl.length = ms.length
      · have e3 : ((ms.length : Int) == (bl.length : Int)) = true := by simp; omega
        have e4 : (ms.length == bl.length) = true := by simp; omega
        have e5 : decide (ms.length = bl.length) = true := decide_eq_true hq.symm
        cases ls
        · have HBN2 := Lib.hid (HSK.out fun _ => .inr ⟨hq.symm, rfl⟩)
          clear hq
          go_wp2
          go_roundw
          case measure => have := HLT.out; simp [intOf] <;> omega
          case rel => exact ⟨S + 1, bl, _, HLT.out, by go_num, rfl, HNB.out _ HK45.out, HBL.out, HBN2.out, HK5.out⟩
        · clear hq
          go_wp2_with fail
          have hF := Rfreeset_any n S t g M _ w5 (by omega) hS4 (HM.out.kept HK5.out)
          obtain ⟨r, hr⟩ : ∃ r, okM n M S = r := ⟨_, rfl⟩
          rw [hr] at hF HOKS
          clear hr
          refine hF.mono ?_
          clear hF
          rintro e w6 ⟨rfl, hk6⟩
          have HK46 := Lib.hid (HK45.out.trans hk6)
          have HK6 := Lib.hid (HK5.out.trans hk6)
          clear hk6
          cases r
          · have HBN2 := Lib.hid (HSK.out fun h => by rw [← HOKS.out] at h; cases h)
            go_wp2
            go_roundw
            case measure => have := HLT.out; simp [intOf] <;> omega
            case rel => exact ⟨S + 1, bl, _, HLT.out, by go_num, rfl, HNB.out _ HK46.out, HBL.out, HBN2.out, HK6.out⟩
          · have HBN2 := Lib.hid (HTK.out HOKS.out.symm (by have := HLO.out; omega) (fun _ => by first | rfl | trivial))
            go_wp2
            go_roundw
            case measure => have := HLT.out; simp [intOf] <;> omega
            case rel => exact ⟨S + 1, ms, _, HLT.out, by go_num, rfl, HNL.out _ HK46.out, by have := HLL.out; omega, HBN2.out, HK6.out⟩
      · have e3 : ((ms.length : Int) == (bl.length : Int)) = false := by simp; omega
        have e4 : (ms.length == bl.length) = false := by simp; omega
        have e5 : decide (ms.length = bl.length) = false := decide_eq_false (fun h => hq h.symm)
        have HQ := Lib.hid hq
        clear hq
        go_wp2_with fail
        have hF := Rfreeset_any n S t g M _ w5 (by omega) hS4 (HM.out.kept HK5.out)
        obtain ⟨r, hr⟩ : ∃ r, okM n M S = r := ⟨_, rfl⟩
        rw [hr] at hF HOKS
        clear hr
        refine hF.mono ?_
        clear hF
        rintro e w6 ⟨rfl, hk6⟩
        have HK46 := Lib.hid (HK45.out.trans hk6)
        have HK6 := Lib.hid (HK5.out.trans hk6)
        clear hk6
        cases r
        · have HBN2 := Lib.hid (HSK.out fun h => by rw [← HOKS.out] at h; cases h)
          go_wp2
          go_roundw
          case measure => have := HLT.out; simp [intOf] <;> omega
          case rel => exact ⟨S + 1, bl, _, HLT.out, by go_num, rfl, HNB.out _ HK46.out, HBL.out, HBN2.out, HK6.out⟩
        · have HBN2 := Lib.hid (HTK.out HOKS.out.symm (by have := HLO.out; omega) (fun e => absurd e.symm HQ.out))
          go_wp2
          go_roundw
          case measure => have := HLT.out; simp [intOf] <;> omega
          case rel => exact ⟨S + 1, ms, _, HLT.out, by go_num, rfl, HNL.out _ HK46.out, by have := HLL.out; omega, HBN2.out, HK6.out⟩
    obtain rfl : S = N2 := by omega
    have HRES := Lib.hid (HFR.out bl HBE.out)
    clear hS hlt
    go_wp2
    go_ret2
    rw [← HX2.out, ← HRES.out]
    exact ⟨_, rfl, ⟨ba, bc, by simp [toI_len], HBN.out, HBI.out, HBZ.out⟩, HK3.out.trans HKW.out⟩
end Go.Proofs.Yteljjkghjbofnaa
