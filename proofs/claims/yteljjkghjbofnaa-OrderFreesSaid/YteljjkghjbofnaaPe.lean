/- order.CheckFree. -/
import Derived.Test.YteljjkghjbofnaaPd
set_option maxRecDepth 100000
namespace Go.Proofs.Yteljjkghjbofnaa
open Go Go.Proofs Go.RowKit
attribute [local go_sem] Oper.semAt_some

/-- A rising list of free patches. -/
structure FSet (W : Web) (l : List Int) : Prop where
  rng : ∀ x ∈ l, 0 ≤ x ∧ x < (W.n : Int)
  ris : ∀ i, (h : i + 1 < l.length) → l[i] < l[i + 1]
  free : ∀ i k, (hi : i < l.length) → (hk : k < i) → hasS (W.reach l[i].toNat) (l[k]'(by omega)).toNat = false ∧ hasS (W.reach (l[k]'(by omega)).toNat) l[i].toNat = false
/-- Chains that have all patches, each once. -/
structure FChains (W : Web) (chs : List (List Int)) : Prop where
  len : chs.flatten.length = W.n
  rng : ∀ x ∈ chs.flatten, 0 ≤ x ∧ x < (W.n : Int)
  nod : chs.flatten.Nodup
  ne : ∀ i (h : i < chs.length), chs[i] ≠ []
  run : ∀ i (h : i < chs.length) k, (hk : k + 1 < chs[i].length) → hasS (W.reach chs[i][k].toNat) chs[i][k + 1].toNat = true
structure CFP (o : Prob) (l : List Int) (chs : List (List Int)) : Prop where
  err : errS o = 0
  len : l.length = chs.length
  set : FSet (webOf o) l
  chs : FChains (webOf o) chs
/-- It says whether P. -/
def SaysB (P : Prop) (w : World) (e : Ending) (w' : World) : Prop := ∃ b : Bool, e = .returned (.bool b) ∧ (b = true ↔ P) ∧ Kept w w'
theorem SaysB.no {P : Prop} {w w' : World} {v : Value} (hv : v = .bool false) (h : ¬ P) (hk : Kept w w') : SaysB P w (.returned v) w' := ⟨false, by rw [hv], ⟨fun e => (by cases e), fun p => absurd p h⟩, hk⟩
theorem SaysB.yes {P : Prop} {w w' : World} {v : Value} (hv : v = .bool true) (h : P) (hk : Kept w w') : SaysB P w (.returned v) w' := ⟨true, by rw [hv], ⟨fun _ => h, fun _ => rfl⟩, hk⟩

theorem nat_at {W : Web} {l : List Int} (h : ∀ x ∈ l, 0 ≤ x ∧ x < (W.n : Int)) {k : Nat} (hk : k < l.length) : ∃ a : Nat, l[k] = (a : Int) ∧ a < W.n := by
  have := h _ (List.getElem_mem hk)
  exact ⟨l[k].toNat, by omega, by omega⟩
theorem flat_at {W : Web} {chs : List (List Int)} (h : ∀ x ∈ chs.flatten, 0 ≤ x ∧ x < (W.n : Int)) {k : Nat} (hk : k < chs.length) {i : Nat} (hi : i < chs[k].length) : ∃ a : Nat, chs[k][i] = (a : Int) ∧ a < W.n := by
  have := h chs[k][i] (List.mem_flatten.2 ⟨chs[k], List.getElem_mem hk, List.getElem_mem hi⟩)
  exact ⟨chs[k][i].toNat, by omega, by omega⟩

/-- A chain. -/
def RunC (W : Web) (c : List Int) : Prop := ∀ k, (hk : k + 1 < c.length) → hasS (W.reach c[k].toNat) c[k + 1].toNat = true
theorem RunC.bad {W : Web} {c : List Int} {i a b : Nat} (h : i + 1 < c.length) (ha : c[i] = (a : Int)) (hb : c[i + 1] = (b : Int)) (hx : hasS (W.reach a) b = false) : ¬ RunC W c := fun hr => by
  have h2 := hr i h
  rw [ha, hb] at h2
  simp only [Int.toNat_natCast] at h2
  rw [hx] at h2
  cases h2
/-- The first k lists are chains. -/
def GoodC (W : Web) (chs : List (List Int)) (k : Nat) : Prop := ∀ i, (h : i < chs.length) → i < k → chs[i] ≠ [] ∧ RunC W chs[i]
theorem GoodC.next {W : Web} {chs : List (List Int)} {k : Nat} (h : GoodC W chs k) (hk : k < chs.length) (h1 : chs[k] ≠ []) (h2 : RunC W chs[k]) : GoodC W chs (k + 1) := fun i hi hik => by
  rcases Nat.lt_or_eq_of_le (Nat.le_of_lt_succ hik) with h' | h'
  · exact h i hi h'
  · subst h'; exact ⟨h1, h2⟩
theorem FChains.runC {W : Web} {chs : List (List Int)} (h : FChains W chs) {k : Nat} (hk : k < chs.length) : RunC W chs[k] := h.run k hk

set_option maxHeartbeats 4000000 in
theorem CheckFree_any (o : Prob) (ao bo : Option Addr) (ca cb : Nat) (l : List Int) (lo : Option Addr) (lc : Nat) (chs : List (List Int)) (co : Option Addr) (cc : Nat) (w : World) (ho : IsProb w o ao bo) (hl : Ints w lo l) (hlc : l.length ≤ lc) (hll : l.length ≤ 30) (hch : Chs w co chs) (hcl : chs.length ≤ 30) (hcs : ∀ c ∈ chs, c.length ≤ 30) :
    Calls Try.prog 66 #[probV o ao ca bo cb, .slice lo l.length lc, .slice co chs.length cc] w (SaysB (CFP o l chs) w) := by
  have HO := Lib.hid ho
  have HL := Lib.hid hl
  have HLC := Lib.hid hlc
  have HCH := Lib.hid hch
  have HCS := Lib.hid hcs
  clear ho hl hlc hch hcs
  by_cases he : errS o = 0
  case neg =>
    have HE := Lib.hid he
    have hb : (errS o != 0) = true := by simp [he]
    clear he
    go_enter Try.func66, Try.ntmps66
    go_wp2_with fail
    obtain ⟨w0, e0, hk0, hb0, -⟩ := alloc_prob w o.N o.arcs o.near ao ca bo cb
    rw [e0]
    clear e0
    have HK0 := Lib.hid hk0
    obtain ⟨q0, q1, q2⟩ := hb0
    have qb := lt_of_cell q0
    go_wp2_with fail
    clear hk0 q0 q1 q2 qb
    refine (straight_bad o ao bo ca cb w0 (HO.out.kept HK0.out) HE.out).mono ?_
    rintro e w1 ⟨rfl, hk1⟩
    have HK1 := Lib.hid (HK0.out.trans hk1)
    clear hk1
    go_wp2
    go_ret
    exact SaysB.no rfl (fun h => HE.out h.err) HK1.out
  have HE := Lib.hid he
  have HEC := Lib.hid (errS_ok he)
  clear he
  go_enter Try.func66, Try.ntmps66
  go_wp2_with fail
  obtain ⟨w0, e0, hk0, hb0, -⟩ := alloc_prob w o.N o.arcs o.near ao ca bo cb
  rw [e0]
  clear e0
  have HK0 := Lib.hid hk0
  obtain ⟨q0, q1, q2⟩ := hb0
  have qb := lt_of_cell q0
  go_wp2_with fail
  clear hk0 q0 q1 q2 qb
  refine (straight_ok o ao bo ca cb w0 (HO.out.kept HK0.out) HEC.out.1 HEC.out.2).mono ?_
  rintro e w1 ⟨b, rfl, hw1, hk1⟩
  have HW := Lib.hid hw1
  have HK1 := Lib.hid (HK0.out.trans hk1)
  have HN24 := Lib.hid (webOf_n HEC.out.1)
  clear hw1 hk1 HK0 HO
  have HP : Hid (CFP o l chs ↔ (l.length = chs.length ∧ FSet (webOf o) l ∧ FChains (webOf o) chs)) := Lib.hid ⟨fun h => ⟨h.len, h.set, h.chs⟩, fun h => ⟨HE.out, h.1, h.2.1, h.2.2⟩⟩
  generalize CFP o l chs = PP at *
  generalize webOf o = W at *
  clear HE HEC
  by_cases hne : l.length = chs.length
  case neg =>
    have HX := Lib.hid hne
    have b1 : ((l.length : Int) != (chs.length : Int)) = true := by simp; omega
    have b2 : (l.length != chs.length) = true := by simp; omega
    clear hne
    go_wp2
    go_ret
    exact SaysB.no rfl (fun h => HX.out (HP.out.1 h).1) HK1.out
  have HNE := Lib.hid hne
  have b1 : ((l.length : Int) != (chs.length : Int)) = false := by simp; omega
  have b2 : (l.length != chs.length) = false := by simp; omega
  clear hne
  go_wp2_with fail
  clear b1 b2
  refine (each_any b W l lo lc w1 HW.out HN24.out (HL.out.kept HK1.out) (by omega)).mono ?_
  rintro e w2 ⟨rfl, rfl⟩
  obtain ⟨ev, hev⟩ : ∃ ev, eachB W.n l = ev := ⟨_, rfl⟩
  rw [hev]
  have HEV := Lib.hid hev
  clear hev
  cases ev
  case false =>
    go_wp2
    go_ret
    refine SaysB.no rfl (fun h => ?_) HK1.out
    have h2 := (HP.out.1 h).2.1
    have h3 : eachB W.n l = true := by
      unfold eachB
      rw [decide_eq_true_eq]
      refine ⟨h2.rng, ?_⟩
      unfold List.Nodup
      refine List.pairwise_iff_getElem.2 fun i j hi hj hij => ?_
      have key : ∀ d i, (h : i + d + 1 < l.length) → l[i] < l[i + d + 1] := by
        intro d
        induction d with
        | zero => intro i h; exact h2.ris i h
        | succ d ih =>
          intro i h
          have a1 := ih i (by omega)
          have a2 := h2.ris (i + d + 1) (by omega)
          have e : i + (d + 1) + 1 = i + d + 1 + 1 := by omega
          simp only [e]
          omega
      have := key (j - i - 1) i (by omega)
      have e : i + (j - i - 1) + 1 = j := by omega
      simp only [e] at this
      omega
    rw [HEV.out] at h3
    cases h3
  have HRNG : Hid (∀ x ∈ l, 0 ≤ x ∧ x < (W.n : Int)) := Lib.hid (by have h := HEV.out; unfold eachB at h; rw [decide_eq_true_eq] at h; exact h.1)
  go_wp2_with fail
  refine (risingI_any l lo lc w1 (by omega) (HL.out.kept HK1.out)).mono ?_
  rintro e w3 ⟨rfl, hk3⟩
  have HK3 := Lib.hid (HK1.out.trans hk3)
  have HW3 := Lib.hid (HW.out.kept hk3)
  clear hk3 HK1 HW HEV
  obtain ⟨rv, hrv⟩ : ∃ rv, risI l = rv := ⟨_, rfl⟩
  rw [hrv]
  have HRV := Lib.hid hrv
  clear hrv
  cases rv
  case false =>
    go_wp2
    go_ret
    refine SaysB.no rfl (fun h => ?_) HK3.out
    have h2 := (HP.out.1 h).2.1
    have h3 := risI_true h2.ris
    rw [HRV.out] at h3
    cases h3
  have HRIS := Lib.hid (risI_at HRV.out)
  clear HRV
  go_wp2
  go_loop [44] (fun i => ∃ k : Nat, k ≤ l.length ∧ i = .int .i64 k ∧ ∀ i k', (hi : i < l.length) → (hk : k' < i) → i < k → hasS (W.reach l[i].toNat) (l[k']'(by omega)).toNat = false ∧ hasS (W.reach (l[k']'(by omega)).toNat) l[i].toNat = false) (fun i => l.length - (intOf i).toNat)
  case atStart => exact ⟨0, Nat.zero_le _, rfl, fun _ _ _ _ h => by omega⟩
  case round =>
    obtain ⟨k, hk, rfl, hfr⟩ := hrel
    have HFR := Lib.hid hfr
    clear hfr
    by_cases hlt : k < l.length
    case pos =>
      have HLT := Lib.hid hlt
      obtain ⟨B, off, rfl, hc⟩ := HL.out.kept HK3.out k hlt
      have hcb := lt_of_cell hc
      obtain ⟨a, ha, han⟩ := nat_at HRNG.out hlt
      have HA := Lib.hid ha
      rw [ha] at hc
      have hkc : k ≤ lc := by have := HLC.out; omega
      have hkc2 : (k : Int) ≤ (lc : Int) := by omega
      have ha24 : a < 24 := by have := HN24.out; omega
      have hai : (a : Int) < 24 := by omega
      have hra := HW3.out.reach a ha24
      clear ha hk
      go_wp2
      go_loop [53] (fun i => ∃ j : Nat, j ≤ k ∧ i = .int .i64 j ∧ ∀ k', (hk : k' < k) → k' < j → hasS (W.reach a) (l[k']'(by omega)).toNat = false ∧ hasS (W.reach (l[k']'(by omega)).toNat) a = false) (fun i => k - (intOf i).toNat)
      case atStart => exact ⟨0, Nat.zero_le _, rfl, fun _ _ h => by omega⟩
      case round =>
        obtain ⟨j, hj, rfl, hfj⟩ := hrel
        have HFJ := Lib.hid hfj
        clear hfj
        by_cases hjt : j < k
        case pos =>
          have HJT := Lib.hid hjt
          have hjl : j < l.length := by omega
          obtain ⟨B', off', e', hc'⟩ := HL.out.kept HK3.out j hjl
          cases e'
          obtain ⟨c, hcx, hcn⟩ := nat_at HRNG.out hjl
          have HCX := Lib.hid hcx
          rw [hcx] at hc'
          have hc24 : c < 24 := by have := HN24.out; omega
          have hci : (c : Int) < 24 := by omega
          have hrc := HW3.out.reach c hc24
          clear hcx hj
          go_wp2_with fail
          refine (has_any (W.reach a) c w3 (by omega)).mono ?_
          rintro e w4 ⟨rfl, rfl⟩
          cases h1 : hasS (W.reach a) c
          case true =>
            have H1 := Lib.hid h1
            clear h1
            go_wp2
            go_ret
            refine SaysB.no rfl (fun h => ?_) HK3.out
            have h2 := ((HP.out.1 h).2.1.free k j HLT.out HJT.out).1
            rw [HA.out, HCX.out] at h2
            simp only [Int.toNat_natCast] at h2
            rw [H1.out] at h2
            cases h2
          have H1 := Lib.hid h1
          clear h1
          go_wp2_with fail
          refine (has_any (W.reach c) a w3 (by omega)).mono ?_
          rintro e w4 ⟨rfl, rfl⟩
          cases h1 : hasS (W.reach c) a
          case true =>
            have H2 := Lib.hid h1
            clear h1
            go_wp2
            go_ret
            refine SaysB.no rfl (fun h => ?_) HK3.out
            have h2 := ((HP.out.1 h).2.1.free k j HLT.out HJT.out).2
            rw [HA.out, HCX.out] at h2
            simp only [Int.toNat_natCast] at h2
            rw [H2.out] at h2
            cases h2
          have H2 := Lib.hid h1
          clear h1
          go_wp2
          go_round
          case measure => have := HJT.out; simp [intOf] <;> omega
          case rel => exact ⟨j + 1, HJT.out, by go_num, fun k' hk' hj' => by
            rcases Nat.lt_or_eq_of_le (Nat.le_of_lt_succ hj') with h | h
            · exact HFJ.out k' hk' h
            · subst h
              rw [HCX.out]
              simp only [Int.toNat_natCast]
              exact ⟨H1.out, H2.out⟩⟩
        obtain rfl : j = k := by omega
        clear hj hjt
        go_wp2
        go_round
        case measure => have := HLT.out; simp [intOf] <;> omega
        case rel => exact ⟨j + 1, HLT.out, by go_num, fun i k' hi hk' hik => by
          rcases Nat.lt_or_eq_of_le (Nat.le_of_lt_succ hik) with h | h
          · exact HFR.out i k' hi hk' h
          · subst h
            rw [HA.out]
            simp only [Int.toNat_natCast]
            exact HFJ.out k' hk' hk'⟩
    obtain rfl : k = l.length := by omega
    have HSET : Hid (FSet W l) := Lib.hid ⟨HRNG.out, HRIS.out, fun i k' hi hk' => HFR.out i k' hi hk' hi⟩
    clear hk hlt HFR HRIS
    go_wp2_with fail
    refine (ConcatI_any chs co cc w3 (HCH.out.kept HK3.out) hcl HCS.out).mono ?_
    rintro e w4 ⟨v, rfl, hown, hk4⟩
    obtain ⟨fo, fc, rfl, hfc, hfi⟩ := hown.slice
    have HFI := Lib.hid hfi
    have HK4 := Lib.hid (HK3.out.trans hk4)
    have HW4 := Lib.hid (HW3.out.kept hk4)
    have HFLN := Lib.hid (flat_len HCS.out chs.length)
    rw [List.take_length] at HFLN
    clear hown hfc hfi hk4 HK3 HW3
    generalize hfl : chs.flatten = fl at *
    have HFL := Lib.hid hfl
    clear hfl
    have hwn := HW4.out.n
    have hwb := lt_of_cell hwn
    have hfb := HFLN.out
    by_cases hfn : fl.length = W.n
    case neg =>
      have HX := Lib.hid hfn
      have b1 : ((fl.length : Int) != (W.n : Int)) = true := by simp; omega
      have b2 : (fl.length != W.n) = true := by simp; omega
      clear hfn
      go_wp2
      go_ret
      exact SaysB.no rfl (fun h => HX.out (by rw [← HFL.out]; exact (HP.out.1 h).2.2.len)) HK4.out
    have HFN := Lib.hid hfn
    have b1 : ((fl.length : Int) != (W.n : Int)) = false := by simp; omega
    have b2 : (fl.length != W.n) = false := by simp; omega
    clear hfn
    go_wp2_with fail
    clear b1 b2 hwn hwb
    refine (each_any b W fl fo fc w4 HW4.out HN24.out HFI.out (by omega)).mono ?_
    rintro e w5 ⟨rfl, rfl⟩
    obtain ⟨ev, hev⟩ : ∃ ev, eachB W.n fl = ev := ⟨_, rfl⟩
    rw [hev]
    have HEV := Lib.hid hev
    clear hev
    cases ev
    case false =>
      go_wp2
      go_ret
      refine SaysB.no rfl (fun h => ?_) HK4.out
      have h2 := (HP.out.1 h).2.2
      have h3 : eachB W.n fl = true := by
        unfold eachB
        rw [decide_eq_true_eq, ← HFL.out]
        exact ⟨h2.rng, h2.nod⟩
      rw [HEV.out] at h3
      cases h3
    have HEE : Hid ((∀ x ∈ chs.flatten, 0 ≤ x ∧ x < (W.n : Int)) ∧ chs.flatten.Nodup) := Lib.hid (by have h := HEV.out; unfold eachB at h; rw [decide_eq_true_eq] at h; rw [HFL.out]; exact h)
    clear HEV HFI
    go_wp2
    go_loopw [94] (fun i wr => ∃ k : Nat, k ≤ chs.length ∧ i = .int .i64 k ∧ GoodC W chs k ∧ Kept w4 wr) (fun i _ => chs.length - (intOf i).toNat)
    case atStart => exact ⟨0, Nat.zero_le _, rfl, fun _ _ h => by omega, Kept.refl _⟩
    case round =>
      obtain ⟨k, hk, rfl, hgo, hkr⟩ := hrel
      have HK5 := Lib.hid (HK4.out.trans hkr)
      have HKR := Lib.hid hkr
      have HW5 := Lib.hid (HW4.out.kept hkr)
      clear hkr
      obtain ⟨w5, hw5⟩ : ∃ x, x = wr := ⟨_, rfl⟩
      subst hw5
      have HGO := Lib.hid hgo
      clear hgo
      by_cases hlt : k < chs.length
      case pos =>
        have HLT := Lib.hid hlt
        obtain ⟨B, off, la, lc2, rfl, hc, hci, hcn, hcc⟩ := HCH.out.kept HK5.out k hlt
        have hcb := lt_of_cell hc
        have HCI := Lib.hid hci
        have h30 := HCS.out _ (List.getElem_mem hlt)
        have HAT : Hid (∀ i, (hi : i < chs[k].length) → ∃ a : Nat, chs[k][i] = (a : Int) ∧ a < W.n) := Lib.hid fun i hi => flat_at HEE.out.1 hlt hi
        have HBAD : Hid (¬ RunC W chs[k] → ¬ PP) := Lib.hid fun hx hp => hx ((HP.out.1 hp).2.2.runC hlt)
        have HEMP : Hid (chs[k] = [] → ¬ PP) := Lib.hid fun h hp => (HP.out.1 hp).2.2.ne k hlt h
        have HNXT : Hid (chs[k] ≠ [] → RunC W chs[k] → GoodC W chs (k + 1)) := Lib.hid fun h1 h2 => HGO.out.next hlt h1 h2
        clear hci hcn hcc
        generalize chs[k] = ck at *
        clear hk
        by_cases hz : ck.length = 0
        case pos =>
          have HX := Lib.hid (HEMP.out (List.eq_nil_of_length_eq_zero hz))
          have e1 : ((ck.length : Int) == 0) = true := by simp [hz]
          have e2 : (ck.length == 0) = true := by simp [hz]
          clear hz
          go_wp2
          go_ret
          exact SaysB.no rfl HX.out HK5.out
        have HNE2 : Hid (ck ≠ []) := Lib.hid fun e => hz (by rw [e]; rfl)
        have e1 : ((ck.length : Int) == 0) = false := by simp only [beq_eq_false_iff_ne]; omega
        have e2 : (ck.length == 0) = false := by simp only [beq_eq_false_iff_ne]; omega
        clear hz
        go_wp2
        clear e1 e2
        go_loopw [16] (fun i wr => ∃ j : Nat, 1 ≤ j ∧ j ≤ ck.length ∧ i = .int .i64 j ∧ (∀ k', (hk : k' + 1 < ck.length) → k' + 1 < j → hasS (W.reach ck[k'].toNat) ck[k' + 1].toNat = true) ∧ Kept w5 wr) (fun i _ => ck.length - (intOf i).toNat)
        case atStart => exact ⟨1, Nat.le_refl _, by have := HNE2.out; exact List.length_pos_iff.2 this, rfl, fun k' _ h => by omega, Kept.refl _⟩
        case round =>
          obtain ⟨j1, hj1, hj, rfl, hrun, hkj⟩ := hrel
          have HKJ := Lib.hid hkj
          clear hkj
          have HRUN := Lib.hid hrun
          clear hrun
          by_cases hjt : j1 < ck.length
          case pos =>
            obtain ⟨j, rfl⟩ : ∃ j, j1 = j + 1 := ⟨j1 - 1, by omega⟩
            have HJT := Lib.hid hjt
            obtain ⟨B', off', rfl, hc1⟩ := HCI.out.kept HKJ.out (j + 1) hjt
            obtain ⟨B2, off2, e2, hc0⟩ := HCI.out.kept HKJ.out j (by omega)
            simp only [Option.some.injEq, Addr.mk.injEq] at e2
            obtain ⟨rfl, rfl, -⟩ := e2
            obtain ⟨x, hx, hxn⟩ := HAT.out j (by omega)
            obtain ⟨y, hy, hyn⟩ := HAT.out (j + 1) hjt
            have HX := Lib.hid hx
            have HY := Lib.hid hy
            rw [hx] at hc0
            rw [hy] at hc1
            have hcl := lt_of_cell hc0
            have hx24 : x < 24 := by have := HN24.out; omega
            have hxi : (x : Int) < 24 := by omega
            have hrx := (HW5.out.kept HKJ.out).reach x hx24
            have hrb := lt_of_cell hrx
            clear hx hy hj hj1
            have hwj : IntKind.i64.wrap (j : Int) = j := IntWalk.i64_in _ (by omega)
            have hj0 : (j : Int) < (ck.length : Int) := by omega
            have hj3 : (j : Int) + 1 < (ck.length : Int) := by omega
            have hj2 : (0 : Int) ≤ (j : Int) + 1 := by omega
            have hj4 : ((j : Int) + 1).toNat = j + 1 := by omega
            go_wp2
            refine region_tail 15 (by kernel_rfl) (by kernel_rfl) ?_
            simp only [List.take_succ_cons, List.take_zero, List.drop_succ_cons, List.drop_zero]
            iterate 14
              with_reducible refine wpStill_want ?_ (fun K hK => ?_)
              · rfl
              go_simp
              refine hK _ ?_
              clear hK K
            still_call Calls_still (has_any (W.reach x) y _ (by have := HN24.out; omega))
            with_reducible refine wpStill_nil ?_
            cases h1 : hasS (W.reach x) y
            case false =>
              have H1 := Lib.hid h1
              clear h1
              go_wp2
              go_ret
              exact SaysB.no rfl (HBAD.out (RunC.bad HJT.out HX.out HY.out H1.out)) (HK5.out.trans HKJ.out).drew
            have H1 := Lib.hid h1
            clear h1
            go_wp2
            go_round
            case measure => have := HJT.out; simp [intOf] <;> omega
            case rel => exact ⟨j + 2, by omega, HJT.out, by go_num, (fun k' hk' hj' => by
              rcases Nat.lt_or_eq_of_le (Nat.le_of_lt_succ hj') with h | h
              · exact HRUN.out k' hk' h
              · obtain rfl : k' = j := by omega
                rw [HX.out, HY.out]
                simp only [Int.toNat_natCast]
                exact H1.out), HKJ.out.drew⟩
          obtain rfl : j1 = ck.length := by omega
          have HGN := Lib.hid (HNXT.out HNE2.out (fun k' hk' => HRUN.out k' hk' hk'))
          clear hj1 hj hjt HRUN
          go_wp2
          go_round
          case measure => have := HLT.out; simp [intOf] <;> omega
          case rel => exact ⟨k + 1, HLT.out, by go_num, HGN.out, HKR.out.trans HKJ.out⟩
      obtain rfl : k = chs.length := by omega
      have HY : Hid PP := Lib.hid (HP.out.2 ⟨HNE.out, HSET.out, ⟨by rw [HFL.out]; exact HFN.out, HEE.out.1, HEE.out.2, fun i hi => (HGO.out i hi hi).1, fun i hi => (HGO.out i hi hi).2⟩⟩)
      clear hk hlt HGO
      go_wp2
      go_ret
      exact SaysB.yes rfl HY.out HK5.out
end Go.Proofs.Yteljjkghjbofnaa
