/- ref.CheckFree. -/
import Derived.Test.YteljjkghjbofnaaPe
import Derived.Test.YteljjkghjbofnaaYd
import Derived.Test.YteljjkghjbofnaaTe
set_option maxRecDepth 100000
namespace Go.Proofs.Yteljjkghjbofnaa
open Go Go.Proofs Go.RowKit
attribute [local go_sem] Oper.semAt_some

/-- The one before k is less. -/
def RisAt (l : List Int) (k : Nat) : Prop := ∀ j, (h : j + 1 < l.length) → j + 1 = k → l[j] < l[j + 1]
/-- The first k of the set are so far rising free patches. -/
structure SetTo (W : Web) (l : List Int) (k : Nat) : Prop where
  rng : ∀ i, (h : i < l.length) → i < k → 0 ≤ l[i] ∧ l[i] < (W.n : Int)
  ris : ∀ i, (h : i + 1 < l.length) → i + 1 < k → l[i] < l[i + 1]
  free : ∀ i k', (hi : i < l.length) → (hk : k' < i) → i < k → hasS (W.reach l[i].toNat) (l[k']'(by omega)).toNat = false ∧ hasS (W.reach (l[k']'(by omega)).toNat) l[i].toNat = false
theorem SetTo.zero (W : Web) (l : List Int) : SetTo W l 0 := ⟨fun _ _ h => by omega, fun _ _ h => by omega, fun _ _ _ _ h => by omega⟩
theorem SetTo.next {W : Web} {l : List Int} {k : Nat} (h : SetTo W l k) (hk : k < l.length) (h1 : 0 ≤ l[k] ∧ l[k] < (W.n : Int)) (h2 : RisAt l k)
    (h3 : ∀ k', (hk' : k' < k) → hasS (W.reach l[k].toNat) (l[k']'(by omega)).toNat = false ∧ hasS (W.reach (l[k']'(by omega)).toNat) l[k].toNat = false) : SetTo W l (k + 1) :=
  ⟨fun i hi hik => by
    rcases Nat.lt_or_eq_of_le (Nat.le_of_lt_succ hik) with h' | h'
    · exact h.rng i hi h'
    · subst h'; exact h1,
   fun i hi hik => by
    rcases Nat.lt_or_eq_of_le (Nat.le_of_lt_succ hik) with h' | h'
    · exact h.ris i hi h'
    · exact h2 i hi h',
   fun i k' hi hk' hik => by
    rcases Nat.lt_or_eq_of_le (Nat.le_of_lt_succ hik) with h' | h'
    · exact h.free i k' hi hk' h'
    · subst h'; exact h3 k' hk'⟩
theorem SetTo.all {W : Web} {l : List Int} (h : SetTo W l l.length) : FSet W l :=
  ⟨fun x hx => by obtain ⟨i, hi, rfl⟩ := List.getElem_of_mem hx; exact h.rng i hi hi, fun i hi => h.ris i hi hi, fun i k' hi hk' => h.free i k' hi hk' hi⟩
theorem Mat.frx {X Y : World} {base t tb n : Nat} {g : Nat → Nat} {M : Mx} (h : Mat X base t g n M) (hf : FrX X Y tb) (hb : X.heap.size ≤ tb) : Mat Y base t g n M :=
  ⟨h.tb, Nat.lt_of_lt_of_le h.tl hf.size, fun a ha => hf.cell _ _ _ (by have := h.tl; omega) (h.row a ha), h.gb, h.inj,
   fun a b ha hb' => hf.cell _ _ _ (by have := lt_of_cell (h.val a b ha hb'); omega) (h.val a b ha hb'),
   fun a ha o => (hf.fz _ _ (lt_of_cell (h.val a 0 ha (by omega))) (by have := lt_of_cell (h.val a 0 ha (by omega)); omega)).trans (h.free a ha o)⟩

theorem FrX.setP {X Y : World} {bx : Nat} (h : FrX X Y bx) (o' : Nat) (u : Value) : FrX X (Y.setCell ⟨bx, o', none⟩ u) bx :=
  h.step (Kept.refl _) (row := none) ⟨rfl, rfl, rfl, Nat.le_refl _, fun _ _ _ => rfl⟩ (fun r e => by cases e) o' u
/-- Block sb says of each patch whether it is among pre. -/
def SeenB (X : World) (sb n : Nat) (pre : List Int) : Prop := (∀ a : Nat, a < n → X.cell? ⟨sb, a, none⟩ = some (.bool (decide ((a : Int) ∈ pre)))) ∧ ∀ o, X.frozen? ⟨sb, o, none⟩ = false
theorem SeenB.kept {X Y : World} {sb n : Nat} {pre : List Int} (hn : sb < X.heap.size) (h : SeenB X sb n pre) (hk : Kept X Y) : SeenB Y sb n pre := ⟨fun a ha => hk.cell (h.1 a ha), fun o => (hk.cells.2 sb o hn).trans (h.2 o)⟩
theorem SeenB.set {X : World} {sb n x : Nat} {pre : List Int} (h : SeenB X sb n pre) : SeenB (X.setCell ⟨sb, x, none⟩ (.bool true)) sb n (pre ++ [(x : Int)]) :=
  ⟨fun a ha => by
    rw [cell_set_or (h.1 a ha)]
    by_cases e : a = x
    · subst e; simp
    · have e2 : ¬ ((a : Int) = (x : Int)) := fun h => e (by omega)
      simp [e, e2], fun o => by rw [World.frozen?_setCell]; exact h.2 o⟩
/-- What is ahead of an element of a chain. -/
theorem pre_nodup {W : Web} {chs : List (List Int)} (h : FChains W chs) {i : Nat} (hi : i < chs.length) {k : Nat} (hk : k < chs[i].length) : chs[i][k] ∉ (chs.take i).flatten ++ chs[i].take k := by
  have e1 : chs.flatten = ((chs.take i).flatten ++ chs[i]) ++ (chs.drop (i + 1)).flatten := by
    rw [← flat_succ hi, ← List.flatten_append, List.take_append_drop]
  have e2 : chs[i] = chs[i].take k ++ chs[i][k] :: chs[i].drop (k + 1) := by
    rw [← List.drop_eq_getElem_cons hk, List.take_append_drop]
  have hn := h.nod
  rw [e1, List.nodup_append] at hn
  have h1 := hn.1
  have h2 : (chs.take i).flatten ++ chs[i] = ((chs.take i).flatten ++ chs[i].take k) ++ chs[i][k] :: chs[i].drop (k + 1) := by
    rw [List.append_assoc]
    exact congrArg _ e2
  rw [h2, List.nodup_append] at h1
  intro hm
  exact h1.2.2 _ hm _ (List.mem_cons_self ..) rfl
theorem mem_flat {chs : List (List Int)} {i : Nat} (hi : i < chs.length) {k : Nat} (hk : k < chs[i].length) : chs[i][k] ∈ chs.flatten := List.mem_flatten.2 ⟨chs[i], List.getElem_mem hi, List.getElem_mem hk⟩
theorem snoc_nodup {l : List Int} {x : Int} (h : l.Nodup) (hx : x ∉ l) : (l ++ [x]).Nodup := by
  rw [List.nodup_append]
  exact ⟨h, by simp, fun a ha b hb e => by rw [List.mem_singleton.1 hb] at e; rw [e] at ha; exact hx ha⟩

set_option maxHeartbeats 8000000 in
theorem RCheckFree_any (o : Prob) (ao bo : Option Addr) (ca cb : Nat) (l : List Int) (lo : Option Addr) (lc : Nat) (chs : List (List Int)) (co : Option Addr) (cc : Nat) (w : World) (ho : IsProb w o ao bo) (hl : Ints w lo l) (hll : l.length ≤ 30) (hch : Chs w co chs) (hcl : chs.length ≤ 30) (hcs : ∀ c ∈ chs, c.length ≤ 30) :
    Calls Try.prog 67 #[probV o ao ca bo cb, .slice lo l.length lc, .slice co chs.length cc] w (SaysB (CFP o l chs) w) := by
  have HO := Lib.hid ho
  have HL := Lib.hid hl
  have HCH := Lib.hid hch
  have HCS := Lib.hid hcs
  clear ho hl hch hcs
  go_enter Try.func67, Try.ntmps67
  go_wp2_with fail
  obtain ⟨w0, e0, hk0, hb0, -⟩ := alloc_prob w o.N o.arcs o.near ao ca bo cb
  rw [e0]
  clear e0
  have HK0 := Lib.hid hk0
  have HB0 := Lib.hid hb0
  clear hk0
  obtain ⟨q0, q1, q2⟩ := hb0
  have qb := lt_of_cell q0
  go_wp2_with fail
  clear q0 q1 q2 qb
  refine (RCheck_any o ao bo ca cb w0 (HO.out.kept HK0.out)).mono ?_
  rintro e w1 ⟨rfl, hk⟩
  have HK1 := Lib.hid (HK0.out.trans hk)
  have HB1 := Lib.hid (HB0.out.kept hk)
  clear hk HK0 HB0
  by_cases hc : chk o = 0
  case neg =>
    have HX : Hid (errS o ≠ 0) := Lib.hid (by unfold errS; rw [if_neg hc]; exact hc)
    have e1 : (chk o != 0) = true := by simp [hc]
    clear hc
    go_wp2
    go_ret
    exact SaysB.no rfl (fun h => HX.out h.err) HK1.out
  have HC := Lib.hid hc
  have e1 : (chk o != 0) = false := by simp [hc]
  clear hc
  by_cases hne : l.length = chs.length
  case neg =>
    have HX := Lib.hid hne
    have b1 : ((l.length : Int) != (chs.length : Int)) = true := by simp; omega
    have b2 : (l.length != chs.length) = true := by simp; omega
    clear hne
    go_wp2
    go_ret
    exact SaysB.no rfl (fun h => HX.out h.len) HK1.out
  have HNE := Lib.hid hne
  have b1 : ((l.length : Int) != (chs.length : Int)) = false := by simp; omega
  have b2 : (l.length != chs.length) = false := by simp; omega
  clear hne
  obtain ⟨q0, q1, q2⟩ := HB1.out
  have qb := lt_of_cell q0
  go_wp2_with fail
  clear q0 q1 q2 qb b1 b2 e1
  have hF := Rcircular_any o ao bo ca cb w1 (HO.out.kept HK1.out) HC.out
  obtain ⟨cb', hcb⟩ : ∃ r, circB (webOf o) = r := ⟨_, rfl⟩
  rw [hcb] at hF
  have HCB := Lib.hid hcb
  clear hcb
  refine hF.mono ?_
  clear hF
  rintro e w2 ⟨rfl, hk⟩
  have HK2 := Lib.hid (HK1.out.trans hk)
  have HB2 := Lib.hid (HB1.out.kept hk)
  clear hk HK1 HB1
  cases cb'
  case true =>
    have HX : Hid (errS o ≠ 0) := Lib.hid (by unfold errS; rw [if_pos HC.out, HCB.out]; decide)
    go_wp2
    go_ret
    exact SaysB.no rfl (fun h => HX.out h.err) HK2.out
  have HE : Hid (errS o = 0) := Lib.hid (by unfold errS; rw [if_pos HC.out, HCB.out]; rfl)
  obtain ⟨q0, q1, q2⟩ := HB2.out
  have qb := lt_of_cell q0
  go_wp2_with fail
  clear q0 q1 q2 qb
  refine (Chained_any o ao bo ca cb w2 (HO.out.kept HK2.out) HC.out).mono ?_
  rintro e w3 ⟨t, g, rfl, hm, hk⟩
  have HK3 := Lib.hid (HK2.out.trans hk)
  have HB3 := Lib.hid (HB2.out.kept hk)
  have HM := Lib.hid (Mat.congr hm (fun a b ha _ => chM_reach HC.out ha) : Mat w3 w2.heap.size t g (webOf o).n (fun a b => hasS ((webOf o).reach a) b))
  clear hm hk HK2 HB2
  have hN := webOf_nI HC.out
  have HN24 := Lib.hid (webOf_n HC.out)
  have HP : Hid (CFP o l chs ↔ (FSet (webOf o) l ∧ FChains (webOf o) chs)) := Lib.hid ⟨fun h => ⟨h.set, h.chs⟩, fun h => ⟨HE.out, HNE.out, h.1, h.2⟩⟩
  have HB4 : Hid (w3.cell? ⟨w.heap.size, 0, none⟩ = some (.int .i64 ((webOf o).n : Int))) := Lib.hid (by
    have := HB3.out.c0
    rw [hN]
    exact this)
  clear HB3 HCB HE HC hN
  generalize CFP o l chs = PP at *
  generalize webOf o = W at *
  go_wp2
  go_loopw [9] (fun i wr => ∃ k : Nat, k ≤ l.length ∧ i = .int .i64 k ∧ SetTo W l k ∧ Kept w3 wr) (fun i _ => l.length - (intOf i).toNat)
  case atStart => exact ⟨0, Nat.zero_le _, rfl, SetTo.zero _ _, Kept.refl _⟩
  case round =>
    obtain ⟨k, hk, rfl, hst, hkr⟩ := hrel
    have HST := Lib.hid hst
    have HKR := Lib.hid hkr
    clear hst hkr
    obtain ⟨w5, hw5⟩ : ∃ x, x = wr := ⟨_, rfl⟩
    subst hw5
    by_cases hlt : k < l.length
    case pos =>
      have HBAD : Hid (¬ (0 ≤ l[k] ∧ l[k] < (W.n : Int)) → ¬ PP) := Lib.hid fun hx hp => hx ((HP.out.1 hp).1.rng _ (List.getElem_mem hlt))
      have HBADR : Hid (¬ RisAt l k → ¬ PP) := Lib.hid fun hx hp => hx (fun j h _ => (HP.out.1 hp).1.ris j h)
      have HBADF : Hid (∀ k', (hk' : k' < k) → (hasS (W.reach l[k].toNat) (l[k']'(by omega)).toNat = true ∨ hasS (W.reach (l[k']'(by omega)).toNat) l[k].toNat = true) → ¬ PP) := Lib.hid fun k' hk' hx hp => by
        have h := (HP.out.1 hp).1.free k k' hlt hk'
        rcases hx with hx | hx
        · rw [h.1] at hx; cases hx
        · rw [h.2] at hx; cases hx
      have HNXT : Hid ((0 ≤ l[k] ∧ l[k] < (W.n : Int)) → RisAt l k → (∀ k', (hk' : k' < k) → hasS (W.reach l[k].toNat) (l[k']'(by omega)).toNat = false ∧ hasS (W.reach (l[k']'(by omega)).toNat) l[k].toNat = false) → SetTo W l (k + 1)) := Lib.hid fun a b c => HST.out.next hlt a b c
      obtain ⟨B, off, rfl, hcx⟩ := HL.out.kept (HK3.out.trans HKR.out) k hlt
      have hcb := lt_of_cell hcx
      obtain ⟨x, hx⟩ : ∃ x, l[k] = x := ⟨_, rfl⟩
      have HX := Lib.hid hx
      rw [hx] at hcx
      have HLT : Hid (0 < l.length - k) := Lib.hid (by omega)
      have hN5 := HKR.out.cell HB4.out
      have hNb := lt_of_cell hN5
      clear hx
      obtain ⟨b1, hb1⟩ : ∃ b1, decide (x < 0) = b1 := ⟨_, rfl⟩
      obtain ⟨b2, hb2⟩ : ∃ b2, decide (x ≥ (W.n : Int)) = b2 := ⟨_, rfl⟩
      obtain ⟨b3, hb3⟩ : ∃ b3, decide (0 < k) = b3 := ⟨_, rfl⟩
      have hb3' : decide ((k : Int) > 0) = b3 := by rw [← hb3]; exact decide_eq_decide.2 (by omega)
      have hb3'' : decide (0 < (k : Int)) = b3 := by rw [← hb3]; exact decide_eq_decide.2 (by omega)
      have HB1 := Lib.hid hb1
      have HB2 := Lib.hid hb2
      have HB3 := Lib.hid hb3
      clear hk
      go_wp2
      refine region_tail 29 (by kernel_rfl) (by kernel_rfl) ?_
      simp only [List.take_succ_cons, List.take_zero, List.drop_succ_cons, List.drop_zero]
      iterate 6
        with_reducible refine wpStill_want ?_ (fun K hK => ?_)
        · rfl
        go_simp
        refine hK _ ?_
        clear hK K
      cases b1
      case true =>
        have HNO := Lib.hid (HBAD.out (fun h => by have h2 := of_decide_eq_true HB1.out; rw [HX.out] at h; omega))
        iterate 7
          with_reducible refine wpStill_skip ?_ ?_
          · rfl
          simp only [Act.put, List.setIfInBounds_toArray, List.set_cons_zero, List.set_cons_succ]
        iterate 2
          with_reducible refine wpStill_want ?_ (fun K hK => ?_)
          · rfl
          go_simp
          refine hK _ ?_
          clear hK K
        iterate 14
          with_reducible refine wpStill_skip ?_ ?_
          · rfl
          simp only [Act.put, List.setIfInBounds_toArray, List.set_cons_zero, List.set_cons_succ]
        with_reducible refine wpStill_nil ?_
        go_wp2
        go_ret
        exact SaysB.no rfl HNO.out (HK3.out.trans HKR.out).drew
      iterate 9
        with_reducible refine wpStill_want ?_ (fun K hK => ?_)
        · rfl
        go_simp
        refine hK _ ?_
        clear hK K
      cases b2
      case true =>
        have HNO := Lib.hid (HBAD.out (fun h => by have h2 := of_decide_eq_true HB2.out; rw [HX.out] at h; omega))
        iterate 14
          with_reducible refine wpStill_skip ?_ ?_
          · rfl
          simp only [Act.put, List.setIfInBounds_toArray, List.set_cons_zero, List.set_cons_succ]
        with_reducible refine wpStill_nil ?_
        go_wp2
        go_ret
        exact SaysB.no rfl HNO.out (HK3.out.trans HKR.out).drew
      have hxr : 0 ≤ x ∧ x < (W.n : Int) := by
        have h1 := of_decide_eq_false HB1.out
        have h2 := of_decide_eq_false HB2.out
        omega
      obtain ⟨a, rfl⟩ : ∃ a : Nat, x = (a : Int) := ⟨x.toNat, by omega⟩
      have HA : Hid (a < W.n) := Lib.hid (by omega)
      have HRNG : Hid (0 ≤ l[k] ∧ l[k] < (W.n : Int)) := Lib.hid (by rw [HX.out]; exact hxr)
      clear hxr hb1 hb2 HB1 HB2
      iterate 3
        with_reducible refine wpStill_want ?_ (fun K hK => ?_)
        · rfl
        go_simp
        refine hK _ ?_
        clear hK K
      cases b3
      case false =>
        have HZ : Hid (k = 0) := Lib.hid (by have := of_decide_eq_false HB3.out; omega)
        have HRIS : Hid (RisAt l k) := Lib.hid fun j _ hj => by have := HZ.out; omega
        iterate 10
          with_reducible refine wpStill_skip ?_ ?_
          · rfl
          simp only [Act.put, List.setIfInBounds_toArray, List.set_cons_zero, List.set_cons_succ]
        iterate 1
          with_reducible refine wpStill_want ?_ (fun K hK => ?_)
          · rfl
          go_simp
          refine hK _ ?_
          clear hK K
        with_reducible refine wpStill_nil ?_
        go_wp2
        clear hb3 hb3' hb3''
        go_loopw [10] (fun i wr => i = .int .i64 0 ∧ Kept w3 wr) (fun i _ => 0)
        case atStart => exact ⟨rfl, HKR.out.drew⟩
        case round =>
          obtain ⟨rfl, hkj⟩ := hrel
          have HKJ := Lib.hid hkj
          clear hkj
          have HGN : Hid (SetTo W l (k + 1)) := Lib.hid (HNXT.out HRNG.out HRIS.out (fun k' hk' => by have := HZ.out; omega))
          have hk0 : decide (0 < k) = false := decide_eq_false (by have := HZ.out; omega)
          have hk0' : decide ((0 : Int) < (k : Int)) = false := decide_eq_false (by have := HZ.out; omega)
          go_wp2
          go_roundw
          case measure => have := HLT.out; simp [intOf] <;> omega
          case rel => exact ⟨k + 1, by have := HLT.out; omega, by go_num, HGN.out, HKJ.out⟩
      obtain ⟨k, rfl⟩ : ∃ k', k = k' + 1 := ⟨k - 1, by have := of_decide_eq_true HB3.out; omega⟩
      obtain ⟨B', off', e', hcp⟩ := HL.out.kept (HK3.out.trans HKR.out) k (by omega)
      cases e'
      obtain ⟨pv, hpv⟩ : ∃ pv, l[k] = pv := ⟨_, rfl⟩
      rw [hpv] at hcp
      have HPV := Lib.hid hpv
      obtain ⟨b4, hb4⟩ : ∃ b4, decide ((a : Int) ≤ pv) = b4 := ⟨_, rfl⟩
      have HB4' := Lib.hid hb4
      have hkw : IntKind.i64.wrap (k : Int) = k := IntWalk.i64_in _ (by omega)
      have hk0 : (k : Int) < (l.length : Int) := by omega
      have hk1 : (k : Int) + 1 < (l.length : Int) := by omega
      have hk2 : (0 : Int) ≤ (k : Int) + 1 := by omega
      have hk3 : ((k : Int) + 1).toNat = k + 1 := by omega
      clear hpv hb3 hb3' hb3'' HB3
      iterate 11
        with_reducible refine wpStill_want ?_ (fun K hK => ?_)
        · rfl
        go_simp
        refine hK _ ?_
        clear hK K
      with_reducible refine wpStill_nil ?_
      cases b4
      case true =>
        have HNO := Lib.hid (HBADR.out (fun h => by have h2 := h k hlt rfl; have h3 := of_decide_eq_true HB4'.out; rw [HX.out, HPV.out] at h2; omega))
        go_wp2
        go_ret
        exact SaysB.no rfl HNO.out (HK3.out.trans HKR.out).drew
      have HRIS : Hid (RisAt l (k + 1)) := Lib.hid fun j _ hj => by
        obtain rfl : j = k := by omega
        have h3 := of_decide_eq_false HB4'.out
        rw [HX.out, HPV.out]
        omega
      clear hcp hb4 HB4' hkw
      go_wp2
      go_loopw [10] (fun i wr => ∃ j : Nat, j ≤ (k + 1) ∧ i = .int .i64 j ∧ (∀ k', (hk : k' < (k + 1)) → k' < j → hasS (W.reach a) (l[k']'(Nat.lt_trans hk hlt)).toNat = false ∧ hasS (W.reach (l[k']'(Nat.lt_trans hk hlt)).toNat) a = false) ∧ Kept w3 wr) (fun i _ => (k + 1) - (intOf i).toNat)
      case atStart => exact ⟨0, Nat.zero_le _, rfl, fun _ _ h => by omega, HKR.out.drew⟩
      case round =>
        obtain ⟨j, hj, rfl, hfj, hkj⟩ := hrel
        have HFJ := Lib.hid hfj
        have HKJ := Lib.hid hkj
        clear hfj hkj
        by_cases hjt : j < (k + 1)
        case pos =>
          have hjl : j < l.length := Nat.lt_trans hjt hlt
          obtain ⟨B', off', e', hcy⟩ := HL.out.kept (HK3.out.trans HKJ.out) j hjl
          cases e'
          obtain ⟨B2, off2, e', hcx2⟩ := HL.out.kept (HK3.out.trans HKJ.out) ((k + 1)) hlt
          cases e'
          rw [HX.out] at hcx2
          obtain ⟨y, hy, hyn⟩ : ∃ y : Nat, l[j] = (y : Int) ∧ y < W.n := by
            have := HST.out.rng j hjl hjt
            exact ⟨l[j].toNat, by omega, by omega⟩
          have HBF : Hid ((hasS (W.reach a) y = true ∨ hasS (W.reach y) a = true) → ¬ PP) := Lib.hid fun h => HBADF.out j hjt (by rw [HX.out, hy]; exact h)
          have HY := Lib.hid hy
          rw [hy] at hcy
          have HJT : Hid (0 < (k + 1) - j) := Lib.hid (by omega)
          have hcyb := lt_of_cell hcy
          have hji : (j : Int) < ((k : Int) + 1) := by omega
          have hyi : (y : Int) < (W.n : Int) := by omega
          have hm := HM.out.kept HKJ.out
          have ra := hm.row a HA.out
          have rb := hm.row y hyn
          have rab := lt_of_cell ra
          have va := hm.val a y HA.out hyn
          have vb := hm.val y a hyn HA.out
          have vab := lt_of_cell va
          have vbb := lt_of_cell vb
          have han := HA.out
          clear hm hy hj hcx hcb hN5 hNb
          obtain ⟨m1, hm1⟩ : ∃ m1, hasS (W.reach a) y = m1 := ⟨_, rfl⟩
          obtain ⟨m2, hm2⟩ : ∃ m2, hasS (W.reach y) a = m2 := ⟨_, rfl⟩
          have HM1 := Lib.hid hm1
          have HM2 := Lib.hid hm2
          rw [hm1] at va
          rw [hm2] at vb
          clear hm1 hm2
          go_wp2
          refine region_tail 27 (by kernel_rfl) (by kernel_rfl) ?_
          simp only [List.take_succ_cons, List.take_zero, List.drop_succ_cons, List.drop_zero]
          iterate 14
            with_reducible refine wpStill_want ?_ (fun K hK => ?_)
            · rfl
            go_simp
            refine hK _ ?_
            clear hK K
          cases m1
          case true =>
            have HNO := Lib.hid (HBF.out (.inl HM1.out))
            iterate 13
              with_reducible refine wpStill_skip ?_ ?_
              · rfl
              simp only [Act.put, List.setIfInBounds_toArray, List.set_cons_zero, List.set_cons_succ]
            with_reducible refine wpStill_nil ?_
            go_wp2
            go_ret
            exact SaysB.no rfl HNO.out (HK3.out.trans HKJ.out).drew
          iterate 13
            with_reducible refine wpStill_want ?_ (fun K hK => ?_)
            · rfl
            go_simp
            refine hK _ ?_
            clear hK K
          with_reducible refine wpStill_nil ?_
          cases m2
          case true =>
            have HNO := Lib.hid (HBF.out (.inr HM2.out))
            go_wp2
            go_ret
            exact SaysB.no rfl HNO.out (HK3.out.trans HKJ.out).drew
          have H12 := Lib.hid (And.intro HM1.out HM2.out)
          go_wp2
          go_roundw
          case measure => have := HJT.out; simp [intOf] <;> omega
          case rel => exact ⟨j + 1, by have := HJT.out; omega, by go_num, (fun k' hk' hj' => by
            rcases Nat.lt_or_eq_of_le (Nat.le_of_lt_succ hj') with h | h
            · exact HFJ.out k' hk' h
            · subst h
              rw [HY.out]
              simp only [Int.toNat_natCast]
              exact H12.out), HKJ.out.drew⟩
        obtain rfl : j = (k + 1) := by omega
        have HGN : Hid (SetTo W l ((k + 1) + 1)) := Lib.hid (HNXT.out HRNG.out HRIS.out (fun k' hk' => by
          rw [HX.out]
          simp only [Int.toNat_natCast]
          exact HFJ.out k' hk' hk'))
        clear hj hjt
        go_wp2
        go_roundw
        case measure => have := HLT.out; simp [intOf] <;> omega
        case rel => exact ⟨(k + 1) + 1, by have := HLT.out; omega, by go_num, HGN.out, HKJ.out⟩
    obtain rfl : k = l.length := by omega
    have HSET := Lib.hid (HST.out.all)
    have HKB := Lib.hid HKR.out
    have hN5 := HKR.out.cell HB4.out
    have hNb := lt_of_cell hN5
    have h24 := HN24.out
    clear hk hlt HST HKR
    go_wp2_with (at_make; refine make_one w5 rfl _ _ 104 4 _ 1 rfl Try.underlying104 info4 rfl (by decide) W.n rfl rfl (by omega) ?_; intro w6 hs6 hc6 hf6 hk6; have HS6 : Hid (SeenB w6 w5.heap.size W.n []) := Lib.hid ⟨fun a ha => by rw [hc6 a ha]; simp, hf6⟩; have HK6 := Lib.hid hk6; have HSZ := Lib.hid hs6; clear hs6 hc6 hf6 hk6)
    clear hN5 hNb
    obtain ⟨sb, hsb⟩ : ∃ sb, w5.heap.size = sb := ⟨_, rfl⟩
    rw [hsb] at HS6 HSZ ⊢
    have HSB : Hid (w5.heap.size ≤ sb ∧ w.heap.size < sb ∧ w.heap.size ≤ sb) := Lib.hid (by
      have h1 := (HK3.out.trans HKB.out).size
      have h2 := lt_of_cell (HKB.out.cell HB4.out)
      omega)
    have HB5 := Lib.hid (HKB.out.cell HB4.out)
    have HM5 := Lib.hid (HM.out.kept HKB.out)
    have HK5 := Lib.hid (HK3.out.trans HKB.out)
    have HKW6 := Lib.hid (HK5.out.trans HK6.out)
    have HF6 : Hid (FrX w5 w6 sb) := Lib.hid ((FrX.refl _ _).kept HK6.out)
    clear hsb HKB HB4 HM HK3 HK6
    go_loopw [12, 13] (fun mv iv wr => ∃ i : Nat, i ≤ chs.length ∧ iv = .int .i64 i ∧ mv = .int .i64 ((chs.take i).flatten.length : Int) ∧ GoodC W chs i ∧ (∀ x ∈ (chs.take i).flatten, 0 ≤ x ∧ x < (W.n : Int)) ∧ (chs.take i).flatten.Nodup ∧ SeenB wr sb W.n (chs.take i).flatten ∧ Kept w wr ∧ FrX w5 wr sb) (fun _ iv _ => chs.length - (intOf iv).toNat)
    case atStart => exact ⟨0, Nat.zero_le _, rfl, rfl, fun _ _ h => by omega, fun x hx => by simp at hx, by simp, HS6.out, HKW6.out, HF6.out⟩
    case round =>
      obtain ⟨i, hi, rfl, rfl, hgo, hrg, hnd, hse, hkr, hfr⟩ := hrel
      have HGO := Lib.hid hgo
      have HRG := Lib.hid hrg
      have HND := Lib.hid hnd
      have HSE := Lib.hid hse
      have HKR := Lib.hid hkr
      have HFR := Lib.hid hfr
      clear hgo hrg hnd hse hkr hfr
      obtain ⟨w7, hw7⟩ : ∃ x, x = wr := ⟨_, rfl⟩
      subst hw7
      by_cases hlt : i < chs.length
      case pos =>
        obtain ⟨B, off, la, lc2, rfl, hc, hci, hcn, hcc⟩ := HCH.out.kept HKR.out i hlt
        have hcb := lt_of_cell hc
        have hcw := HCH.out i hlt
        have HCI : Hid (Ints w la chs[i]) := Lib.hid (by
          obtain ⟨B2, off2, la2, lc3, e2, hc2, hci2, -, -⟩ := hcw
          cases e2
          rw [HKR.out.cell hc2] at hc
          simp only [Option.some.injEq, Value.slice.injEq] at hc
          rw [← hc.1]
          exact hci2)
        have h30 := HCS.out _ (List.getElem_mem hlt)
        have HRN : Hid (∀ k, (hk : k < chs[i].length) → ¬ (0 ≤ chs[i][k] ∧ chs[i][k] < (W.n : Int)) → ¬ PP) := Lib.hid fun k hk hx hp => hx ((HP.out.1 hp).2.rng _ (mem_flat hlt hk))
        have HDUP : Hid (∀ k, (hk : k < chs[i].length) → chs[i][k] ∈ (chs.take i).flatten ++ chs[i].take k → ¬ PP) := Lib.hid fun k hk hx hp => pre_nodup (HP.out.1 hp).2 hlt hk hx
        have HBADC : Hid (¬ RunC W chs[i] → ¬ PP) := Lib.hid fun hx hp => hx ((HP.out.1 hp).2.runC hlt)
        have HEMP : Hid (chs[i] = [] → ¬ PP) := Lib.hid fun h hp => (HP.out.1 hp).2.ne i hlt h
        have HNXT : Hid (chs[i] ≠ [] → RunC W chs[i] → GoodC W chs (i + 1)) := Lib.hid fun h1 h2 => HGO.out.next hlt h1 h2
        have HFS : Hid ((chs.take (i + 1)).flatten = (chs.take i).flatten ++ chs[i]) := Lib.hid (flat_succ hlt)
        have HPL : Hid ((chs.take i).flatten.length ≤ 900) := Lib.hid (by have := flat_len HCS.out i; omega)
        have HLT : Hid (0 < chs.length - i) := Lib.hid (by omega)
        clear hci hcn hcc hcw
        generalize hck : chs[i] = ck at *
        clear hck
        have HF2 : Hid (∀ f, f = (chs.take i).flatten → f ++ ck = (chs.take (i + 1)).flatten) := Lib.hid fun f e => by rw [HFS.out, e]
        obtain ⟨pre, hpre⟩ : ∃ pre, (chs.take i).flatten = pre := ⟨_, rfl⟩
        rw [hpre] at HRG HND HSE HDUP HPL HFS ⊢
        clear hpre hi HF2
        by_cases hz : ck.length = 0
        case pos =>
          have HX := Lib.hid (HEMP.out (List.eq_nil_of_length_eq_zero hz))
          have e1 : ((ck.length : Int) == 0) = true := by simp [hz]
          have e2 : (ck.length == 0) = true := by simp [hz]
          clear hz
          go_wp2
          go_ret
          exact SaysB.no rfl HX.out HKR.out
        have HNE2 : Hid (ck ≠ []) := Lib.hid fun e => hz (by rw [e]; rfl)
        have e1 : ((ck.length : Int) == 0) = false := by simp only [beq_eq_false_iff_ne]; omega
        have e2 : (ck.length == 0) = false := by simp only [beq_eq_false_iff_ne]; omega
        clear hz
        go_wp2
        clear e1 e2 hc hcb
        go_loopw [12, 15] (fun mv kv wr => ∃ k : Nat, k ≤ ck.length ∧ kv = .int .i64 k ∧ mv = .int .i64 ((pre ++ ck.take k).length : Int) ∧ (∀ x ∈ pre ++ ck.take k, 0 ≤ x ∧ x < (W.n : Int)) ∧ (pre ++ ck.take k).Nodup ∧ (∀ k', (hk : k' + 1 < ck.length) → k' + 1 < k → hasS (W.reach ck[k'].toNat) ck[k' + 1].toNat = true) ∧ SeenB wr sb W.n (pre ++ ck.take k) ∧ Kept w wr ∧ FrX w5 wr sb) (fun _ kv _ => ck.length - (intOf kv).toNat)
        case atStart => exact ⟨0, Nat.zero_le _, rfl, by simp, by simpa using HRG.out, by simpa using HND.out, fun _ _ h => by omega, by simpa using HSE.out, HKR.out, HFR.out⟩
        case round =>
          obtain ⟨k, hk, rfl, rfl, hrg, hnd, hrun, hse, hkr, hfr⟩ := hrel
          have HRGK := Lib.hid hrg
          have HNDK := Lib.hid hnd
          have HRUN := Lib.hid hrun
          have HSEK := Lib.hid hse
          have HKK := Lib.hid hkr
          have HFK := Lib.hid hfr
          clear hrg hnd hrun hse hkr hfr
          by_cases hkt : k < ck.length
          case pos =>
            have HRNK : Hid (¬ (0 ≤ ck[k] ∧ ck[k] < (W.n : Int)) → ¬ PP) := Lib.hid (HRN.out k hkt)
            have HDUPK : Hid (ck[k] ∈ pre ++ ck.take k → ¬ PP) := Lib.hid (HDUP.out k hkt)
            have HTK : Hid (ck.take (k + 1) = ck.take k ++ [ck[k]]) := Lib.hid (List.take_succ_eq_append_getElem hkt)
            obtain ⟨B1, off1, e1, hcx⟩ := HCI.out.kept HKK.out k hkt
            subst e1
            have hcb := lt_of_cell hcx
            obtain ⟨x, hx⟩ : ∃ x, ck[k] = x := ⟨_, rfl⟩
            have HX := Lib.hid hx
            rw [hx] at hcx HRNK HDUPK HTK
            have hN5 := HFK.out.cell _ _ _ (by have := HSB.out; omega) HB5.out
            have hNb := lt_of_cell hN5
            have HKT : Hid (0 < ck.length - k) := Lib.hid (by omega)
            have hlen : (pre ++ ck.take k).length ≤ 930 := by
              rw [List.length_append]
              have := HPL.out
              have := List.length_take_le' k ck
              omega
            obtain ⟨m, hm⟩ : ∃ m, (pre ++ ck.take k).length = m := ⟨_, rfl⟩
            have HMM := Lib.hid hm
            rw [hm] at hlen ⊢
            clear hm hx hk
            have hmw : wrap64 ((m : Int) + 1) = (m : Int) + 1 := IntWalk.wrap64_in _ (by omega)
            obtain ⟨b1, hb1⟩ : ∃ b1, decide (x < 0) = b1 := ⟨_, rfl⟩
            obtain ⟨b2, hb2⟩ : ∃ b2, decide (x ≥ (W.n : Int)) = b2 := ⟨_, rfl⟩
            obtain ⟨b3, hb3⟩ : ∃ b3, decide (0 < k) = b3 := ⟨_, rfl⟩
            have hb3' : decide ((k : Int) > 0) = b3 := by rw [← hb3]; exact decide_eq_decide.2 (by omega)
            have hb3'' : decide (0 < (k : Int)) = b3 := by rw [← hb3]; exact decide_eq_decide.2 (by omega)
            have HB1 := Lib.hid hb1
            have HB2 := Lib.hid hb2
            have HB3 := Lib.hid hb3
            go_wp2
            refine region_tail 43 (by kernel_rfl) (by kernel_rfl) ?_
            simp only [List.take_succ_cons, List.take_zero, List.drop_succ_cons, List.drop_zero]
            iterate 6
              with_reducible refine wpStill_want ?_ (fun K hK => ?_)
              · rfl
              go_simp
              refine hK _ ?_
              clear hK K
            cases b1
            case true =>
              have HNO := Lib.hid (HRNK.out (fun h => by have h2 := of_decide_eq_true HB1.out; omega))
              iterate 7
                with_reducible refine wpStill_skip ?_ ?_
                · rfl
                simp only [Act.put, List.setIfInBounds_toArray, List.set_cons_zero, List.set_cons_succ]
              iterate 2
                with_reducible refine wpStill_want ?_ (fun K hK => ?_)
                · rfl
                go_simp
                refine hK _ ?_
                clear hK K
              iterate 7
                with_reducible refine wpStill_skip ?_ ?_
                · rfl
                simp only [Act.put, List.setIfInBounds_toArray, List.set_cons_zero, List.set_cons_succ]
              iterate 2
                with_reducible refine wpStill_want ?_ (fun K hK => ?_)
                · rfl
                go_simp
                refine hK _ ?_
                clear hK K
              iterate 19
                with_reducible refine wpStill_skip ?_ ?_
                · rfl
                simp only [Act.put, List.setIfInBounds_toArray, List.set_cons_zero, List.set_cons_succ]
              with_reducible refine wpStill_nil ?_
              go_wp2
              go_ret
              exact SaysB.no rfl HNO.out HKK.out.drew
            iterate 9
              with_reducible refine wpStill_want ?_ (fun K hK => ?_)
              · rfl
              go_simp
              refine hK _ ?_
              clear hK K
            cases b2
            case true =>
              have HNO := Lib.hid (HRNK.out (fun h => by have h2 := of_decide_eq_true HB2.out; omega))
              iterate 7
                with_reducible refine wpStill_skip ?_ ?_
                · rfl
                simp only [Act.put, List.setIfInBounds_toArray, List.set_cons_zero, List.set_cons_succ]
              iterate 2
                with_reducible refine wpStill_want ?_ (fun K hK => ?_)
                · rfl
                go_simp
                refine hK _ ?_
                clear hK K
              iterate 19
                with_reducible refine wpStill_skip ?_ ?_
                · rfl
                simp only [Act.put, List.setIfInBounds_toArray, List.set_cons_zero, List.set_cons_succ]
              with_reducible refine wpStill_nil ?_
              go_wp2
              go_ret
              exact SaysB.no rfl HNO.out HKK.out.drew
            have hxr : 0 ≤ x ∧ x < (W.n : Int) := by
              have h1 := of_decide_eq_false HB1.out
              have h2 := of_decide_eq_false HB2.out
              omega
            obtain ⟨a, rfl⟩ : ∃ a : Nat, x = (a : Int) := ⟨x.toNat, by omega⟩
            have han : a < W.n := by omega
            have HA := Lib.hid han
            have hai : (a : Int) < (W.n : Int) := by omega
            clear hxr hb1 hb2 HB1 HB2
            have sv := HSEK.out.1 a han
            have svb := lt_of_cell sv
            have svf := HSEK.out.2 a
            obtain ⟨bs, hbs⟩ : ∃ bs, decide ((a : Int) ∈ pre ++ ck.take k) = bs := ⟨_, rfl⟩
            rw [hbs] at sv
            have HBS := Lib.hid hbs
            clear hbs
            iterate 9
              with_reducible refine wpStill_want ?_ (fun K hK => ?_)
              · rfl
              go_simp
              refine hK _ ?_
              clear hK K
            cases bs
            case true =>
              have HNO := Lib.hid (HDUPK.out (of_decide_eq_true HBS.out))
              iterate 19
                with_reducible refine wpStill_skip ?_ ?_
                · rfl
                simp only [Act.put, List.setIfInBounds_toArray, List.set_cons_zero, List.set_cons_succ]
              with_reducible refine wpStill_nil ?_
              go_wp2
              go_ret
              exact SaysB.no rfl HNO.out HKK.out.drew
            have HIN : Hid ((a : Int) ∉ pre ++ ck.take k) := Lib.hid (of_decide_eq_false HBS.out)
            have HPRE : Hid (pre ++ ck.take (k + 1) = (pre ++ ck.take k) ++ [(a : Int)]) := Lib.hid (by rw [HTK.out, List.append_assoc])
            have HRG2 : Hid (∀ x ∈ pre ++ ck.take (k + 1), 0 ≤ x ∧ x < (W.n : Int)) := Lib.hid (by
              rw [HPRE.out]
              intro x hx
              rcases List.mem_append.1 hx with h | h
              · exact HRGK.out x h
              · rw [List.mem_singleton.1 h]; omega)
            have HND2 : Hid (pre ++ ck.take (k + 1)).Nodup := Lib.hid (by rw [HPRE.out]; exact snoc_nodup HNDK.out HIN.out)
            have HLEN2 : Hid ((pre ++ ck.take (k + 1)).length = m + 1) := Lib.hid (by rw [HPRE.out, List.length_append, HMM.out]; rfl)
            have HSET2 : Hid (∀ X, SeenB X sb W.n (pre ++ ck.take k) → SeenB (X.setCell ⟨sb, a, none⟩ (.bool true)) sb W.n (pre ++ ck.take (k + 1))) := Lib.hid fun X hX => by rw [HPRE.out]; exact hX.set
            clear HBS
            iterate 3
              with_reducible refine wpStill_want ?_ (fun K hK => ?_)
              · rfl
              go_simp
              refine hK _ ?_
              clear hK K
            cases b3
            case false =>
              have HRUN2 : Hid (∀ k', (hk : k' + 1 < ck.length) → k' + 1 < k + 1 → hasS (W.reach ck[k'].toNat) ck[k' + 1].toNat = true) := Lib.hid fun k' _ h => by have := of_decide_eq_false HB3.out; omega
              iterate 15
                with_reducible refine wpStill_skip ?_ ?_
                · rfl
                simp only [Act.put, List.setIfInBounds_toArray, List.set_cons_zero, List.set_cons_succ]
              iterate 1
                with_reducible refine wpStill_want ?_ (fun K hK => ?_)
                · rfl
                go_simp
                refine hK _ ?_
                clear hK K
              with_reducible refine wpStill_nil ?_
              clear hb3 hb3' hb3'' hN5 hNb
              go_wp2
              go_roundw
              case measure => have := HKT.out; simp [intOf] <;> omega
              case rel => exact ⟨k + 1, by have := HKT.out; omega, by go_num, by rw [HLEN2.out]; simp, HRG2.out, HND2.out, HRUN2.out, SeenB.kept (lt_of_cell ((HSET2.out _ HSEK.out).1 a HA.out)) (HSET2.out _ HSEK.out) (Kept.refl _).drew, (HKK.out.setCell (p := ⟨sb, a, none⟩) HSB.out.2.2 _).drew, (HFK.out.setP a _).kept (Kept.refl _).drew⟩
            obtain ⟨k, rfl⟩ : ∃ k', k = k' + 1 := ⟨k - 1, by have := of_decide_eq_true HB3.out; omega⟩
            obtain ⟨B', off', e', hcp⟩ := HCI.out.kept HKK.out k (by omega)
            cases e'
            obtain ⟨y, hy, hyn⟩ : ∃ y : Nat, ck[k] = (y : Int) ∧ y < W.n := by
              have h := HRGK.out ck[k] (List.mem_append.2 (.inr (List.mem_take_iff_getElem.2 ⟨k, by omega, rfl⟩)))
              exact ⟨ck[k].toNat, by omega, by omega⟩
            rw [hy] at hcp
            have HY := Lib.hid hy
            have hyi : (y : Int) < (W.n : Int) := by omega
            have hkw : IntKind.i64.wrap (k : Int) = k := IntWalk.i64_in _ (by omega)
            have hk0 : (k : Int) < (ck.length : Int) := by omega
            have hk1 : (k : Int) + 1 < (ck.length : Int) := by omega
            have hk2 : (0 : Int) ≤ (k : Int) + 1 := by omega
            have hk3 : ((k : Int) + 1).toNat = k + 1 := by omega
            have hm := HM5.out.frx HFK.out HSB.out.1
            have ry := hm.row y hyn
            have ryb := lt_of_cell ry
            have vy := hm.val y a hyn han
            have vyb := lt_of_cell vy
            obtain ⟨bm, hbm⟩ : ∃ bm, hasS (W.reach y) a = bm := ⟨_, rfl⟩
            have HBM := Lib.hid hbm
            rw [hbm] at vy
            clear hm hy hbm hb3 hb3' hb3'' HB3
            iterate 16
              with_reducible refine wpStill_want ?_ (fun K hK => ?_)
              · rfl
              go_simp
              refine hK _ ?_
              clear hK K
            with_reducible refine wpStill_nil ?_
            cases bm
            case false =>
              have HNO := Lib.hid (HBADC.out (RunC.bad hkt HY.out HX.out HBM.out))
              go_wp2
              go_ret
              exact SaysB.no rfl HNO.out HKK.out.drew
            have HRUN2 : Hid (∀ k', (hk : k' + 1 < ck.length) → k' + 1 < k + 1 + 1 → hasS (W.reach ck[k'].toNat) ck[k' + 1].toNat = true) := Lib.hid fun k' hk h => by
              rcases Nat.lt_or_eq_of_le (Nat.le_of_lt_succ h) with h' | h'
              · exact HRUN.out k' hk h'
              · obtain rfl : k' = k := by omega
                rw [HX.out, HY.out]
                exact HBM.out
            clear vy vyb ry ryb hcp hN5 hNb
            go_wp2
            go_roundw
            case measure => have := HKT.out; simp [intOf] <;> omega
            case rel => exact ⟨(k + 1) + 1, by have := HKT.out; omega, by go_num, by rw [HLEN2.out]; simp, HRG2.out, HND2.out, HRUN2.out, SeenB.kept (lt_of_cell ((HSET2.out _ HSEK.out).1 a HA.out)) (HSET2.out _ HSEK.out) (Kept.refl _).drew, (HKK.out.setCell (p := ⟨sb, a, none⟩) HSB.out.2.2 _).drew, (HFK.out.setP a _).kept (Kept.refl _).drew⟩
          obtain rfl : k = ck.length := by omega
          rw [List.take_length] at HRGK HNDK HSEK ⊢
          rw [← HFS.out] at HRGK HNDK HSEK ⊢
          have HGN := Lib.hid (HNXT.out HNE2.out (fun k' hk' => HRUN.out k' hk' hk'))
          clear hk hkt HRUN
          go_wp2
          go_roundw
          case measure => have := HLT.out; simp [intOf] <;> omega
          case rel => exact ⟨i + 1, by have := HLT.out; omega, by go_num, rfl, HGN.out, HRGK.out, HNDK.out, HSEK.out, HKK.out, HFK.out⟩
      obtain rfl : i = chs.length := by omega
      rw [List.take_length] at HRG HND ⊢
      have HFIN : Hid (chs.flatten.length = W.n → PP) := Lib.hid fun h => HP.out.2 ⟨HSET.out, ⟨h, HRG.out, HND.out, fun i hi => (HGO.out i hi hi).1, fun i hi => (HGO.out i hi hi).2⟩⟩
      have HFNO : Hid (chs.flatten.length ≠ W.n → ¬ PP) := Lib.hid fun h hp => h (HP.out.1 hp).2.len
      have hN5 := HFR.out.cell _ _ _ (by have := HSB.out; omega) HB5.out
      have hNb := lt_of_cell hN5
      have hfl := flat_len HCS.out chs.length
      rw [List.take_length] at hfl
      clear hi hlt
      generalize chs.flatten.length = m at *
      by_cases hmn : m = W.n
      · have HX := Lib.hid (HFIN.out hmn)
        have e1 : ((m : Int) == (W.n : Int)) = true := by simp; omega
        have e2 : (m == W.n) = true := by simp; omega
        clear hmn
        go_wp2
        go_ret
        exact SaysB.yes rfl HX.out HKR.out
      · have HX := Lib.hid (HFNO.out hmn)
        have e1 : ((m : Int) == (W.n : Int)) = false := by simp; omega
        have e2 : (m == W.n) = false := by simp; omega
        clear hmn
        go_wp2
        go_ret
        exact SaysB.no rfl HX.out HKR.out
end Go.Proofs.Yteljjkghjbofnaa
