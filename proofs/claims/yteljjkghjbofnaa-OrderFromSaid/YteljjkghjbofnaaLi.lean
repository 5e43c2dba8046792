/- order.Restrict. -/
import Derived.Test.YteljjkghjbofnaaLf
import Derived.Maps.AppendAt
set_option maxRecDepth 100000
namespace Go.Proofs.Yteljjkghjbofnaa
open Go Go.Proofs Go.RowKit
attribute [local go_sem] Oper.semAt_some

theorem append_pair1 {ops : Array Oper} {rest : List Oper} {o : Oper} {a : Act} {Q : Exit → Act → World → Prop} (w : World) (hg : o.guard = none) (s x : Operand)
    (ho : o.op = .call { callee := .builtin .append, args := #[s, x], argTypes := #[22, 22] }) (base : Nat) (v : Value) (l : List (Int × Int)) (hs : a.eval s = v) (hown : OwnG w base 83 2 pairC v l)
    (g : Nat) (y : Int × Int) (hx : a.eval x = .slice (some ⟨g, 0, none⟩) 1 1) (hc : w.cell? ⟨g, 0, none⟩ = some (.int .i64 y.1) ∧ w.cell? ⟨g, 1, none⟩ = some (.int .i64 y.2)) (hl : l.length + 1 < 1099511627776) (hbase : base ≤ w.heap.size)
    (h : ∀ ra rc w', OwnG w' base 83 2 pairC (.slice ra (l.length + 1) rc) (l ++ [y]) → w.grownBy w' v.ownBlock → (∀ j, (Value.slice ra (l.length + 1) rc).ownBlock = some j → v.ownBlock = some j ∨ j = w.heap.size) → wpList Try.prog ops Q rest (a.put o.dst (.slice ra (l.length + 1) rc)) w') :
    wpList Try.prog ops Q (o :: rest) a w := by
  obtain ⟨i0, hi, hz0, hz1, hz2⟩ := info_parts info83
  refine wpList_append_own_at w hg s x 22 ho base 83 i0 _ 2 16 Try.underlying22 hi hz0 hz1 hz2 rfl (by decide) v l.length _ hs hown ⟨g, 0, none⟩ 1 1 (pairC y) hx rfl
    (fun j u hu => ?_) (pairC_one y) (by unfold maxLen; omega) (by omega) hbase ?_
  · match j, hu with
    | 0, hu => simp [pairC] at hu; subst hu; exact hc.1
    | 1, hu => simp [pairC] at hu; subst hu; exact hc.2
    | j + 2, hu => simp [pairC] at hu
  · intro v' w' h1 h2 _ h4
    have hn : OwnG w' base 83 2 pairC v' (l ++ [y]) := by
      unfold OwnG
      rw [List.length_append, List.flatMap_append]
      simpa using h1
    obtain ⟨ra, rc, e, -, -⟩ := hn.prs
    rw [List.length_append, List.length_singleton] at e
    subst e
    refine h ra rc w' hn h2 (fun j hj => ?_)
    rcases h4 with h4 | h4
    · rw [h4] at hj; exact .inl hj
    · rw [h4] at hj; cases hj; exact .inr rfl
theorem PBox.set2' {X : World} {bx : Nat} {N : Int} {va vb : Value} (h : PBox X bx N va vb) (vb' : Value) : PBox (X.setCell ⟨bx, 2, none⟩ vb') bx N va vb' :=
  ⟨cell_set_off h.c0 (by decide), cell_set_off h.c1 (by decide), cell_set_same h.c2, fun o => by rw [World.frozen?_setCell]; exact h.fz o⟩
/-- Two lists of one's own in a problem's variable. -/
structure TwoL (X : World) (base tb : Nat) (N : Int) (va vb : Value) (A B : List (Int × Int)) : Prop where
  bx : PBox X tb N va vb
  a : OwnG X base 83 2 pairC va A
  b : OwnG X base 83 2 pairC vb B
  ne : ∀ j, va.ownBlock = some j → vb.ownBlock ≠ some j
theorem TwoL.kept {X Y : World} {base tb : Nat} {N : Int} {va vb : Value} {A B : List (Int × Int)} (h : TwoL X base tb N va vb A B) (hk : Kept X Y) : TwoL Y base tb N va vb A B := ⟨h.bx.kept hk, h.a.kept hk, h.b.kept hk, h.ne⟩
theorem TwoL.appA {X X1 Z : World} {base tb : Nat} {N : Int} {va vb v' : Value} {A B A' : List (Int × Int)} (h : TwoL X base tb N va vb A B) (ht : tb < base) (hk : Kept X X1) (hown : OwnG Z base 83 2 pairC v' A') (hg : X1.grownBy Z va.ownBlock) (hj : ∀ j, v'.ownBlock = some j → va.ownBlock = some j ∨ j = X1.heap.size) :
    TwoL (Z.setCell ⟨tb, 1, none⟩ v') base tb N v' vb A' B := by
  have h1 := h.kept hk
  refine ⟨(h1.bx.grownNe hg (fun e => by have := (h.a.lt tb e.symm).1; omega)).set1 _, hown.setBelow (by exact ht) _, (h1.b.grownNe hg (fun j e e2 => h.ne j e2.symm e)).setBelow (by exact ht) _, fun j e e2 => ?_⟩
  rcases hj j e with e3 | e3
  · exact h.ne j e3 e2
  · have := (h.b.lt j e2).2
    have := hk.size
    omega
theorem TwoL.appB {X X1 Z : World} {base tb : Nat} {N : Int} {va vb v' : Value} {A B B' : List (Int × Int)} (h : TwoL X base tb N va vb A B) (ht : tb < base) (hk : Kept X X1) (hown : OwnG Z base 83 2 pairC v' B') (hg : X1.grownBy Z vb.ownBlock) (hj : ∀ j, v'.ownBlock = some j → vb.ownBlock = some j ∨ j = X1.heap.size) :
    TwoL (Z.setCell ⟨tb, 2, none⟩ v') base tb N va v' A B' := by
  have h1 := h.kept hk
  refine ⟨(h1.bx.grownNe hg (fun e => by have := (h.b.lt tb e.symm).1; omega)).set2' _, (h1.a.grownNe hg (fun j e e2 => h.ne j e e2.symm)).setBelow (by exact ht) _, hown.setBelow (by exact ht) _, fun j e e2 => ?_⟩
  rcases hj j e2 with e3 | e3
  · exact h.ne j e e3
  · have := (h.a.lt j e).2
    have := hk.size
    omega
theorem keep_at {X : World} {lo : Option Addr} {keep : List Int} {n : Nat} (h : Ints X lo keep) (hin : ∀ p ∈ keep, 0 ≤ p ∧ p < (n : Int)) {a : Nat} (ha : a < keep.length) : pick keep a < n ∧ ∃ B off, lo = some ⟨B, off, none⟩ ∧ X.cell? ⟨B, off + a, none⟩ = some (.int .i64 (pick keep a : Nat)) := by
  obtain ⟨B, off, e, hc⟩ := h a ha
  have h1 := pick_at hin ha
  have h2 := hin _ (List.getElem_mem ha)
  exact ⟨by omega, B, off, e, by rw [h1]; exact hc⟩
theorem rowK_eq {want : Mx} {a k : Nat} {b : Bool} (h : (decide (a ≠ k) && want a k) = b) : rowK want a (k + 1) = rowK want a k ++ if b = true then [((a : Int), (k : Int))] else [] := by
  rw [rowK_succ, h]

set_option maxHeartbeats 4000000 in
theorem Restrict_any (o : Prob) (ao bo : Option Addr) (ca cb : Nat) (keep : List Int) (lo : Option Addr) (lc : Nat) (w : World) (ho : IsProb w o ao bo) (hl : Ints w lo keep) (hll : keep.length ≤ 30) :
    Calls Try.prog 71 #[probV o ao ca bo cb, .slice lo keep.length lc] w (ProbPost (RestrictR o keep).1 (RestrictR o keep).2 w) := by
  have HO := Lib.hid ho
  have HL := Lib.hid hl
  clear ho hl
  obtain ⟨R, hR⟩ : ∃ R, RestrictR o keep = R := ⟨_, rfl⟩
  rw [hR]
  have HR := Lib.hid hR
  clear hR
  go_enter Try.func71, Try.ntmps71
  go_wp2_with fail
  obtain ⟨w0, e0, hk0, hb0, e5⟩ := alloc_prob w o.N o.arcs o.near ao ca bo cb
  rw [e0]
  clear e0
  have HB2 := Lib.hid (PBox.new w0 0 (.slice none 0 0) (.slice none 0 0))
  have HS0 : Hid (w.heap.size ≤ w0.heap.size) := Lib.hid hk0.size
  have HK1 := Lib.hid (hk0.alloc (.cells #[.int .i64 0, .slice none 0 0, .slice none 0 0] 24))
  have hb1 := hb0.kept ((Kept.refl _).alloc (.cells #[.int .i64 0, .slice none 0 0, .slice none 0 0] 24))
  clear hk0 hb0
  generalize w0.alloc (.cells #[.int .i64 0, .slice none 0 0, .slice none 0 0] 24) = w1 at *
  obtain ⟨g2, hg2⟩ : ∃ g2, w.heap.size + 1 = g2 := ⟨_, rfl⟩
  obtain ⟨g0, hg0⟩ : ∃ g0, w.heap.size = g0 := ⟨_, rfl⟩
  rw [← e5, hg2] at HB2 HS0
  have HG2 : Hid (w.heap.size ≤ g2) := Lib.hid (by omega)
  rw [hg0] at hb1
  rw [hg2, hg0]
  clear hg2 e5 hg0 HS0
  have HB1 := Lib.hid hb1
  clear hb1
  obtain ⟨q0, q1, q2⟩ := HB1.out
  have qb := lt_of_cell q0
  go_wp2_with fail
  clear q0 q1 q2 qb
  by_cases hc : chk o = 0
  case neg =>
    refine (open_bad o ao bo ca cb w1 (HO.out.kept HK1.out) hc).mono ?_
    rintro e w2 ⟨rfl, hk⟩
    have HKX := Lib.hid (HK1.out.trans hk)
    have HBX := Lib.hid (HB2.out.kept hk)
    have hb : (chk o != 0) = true := by simp [hc]
    have HC := Lib.hid hc
    clear hk hc
    obtain ⟨p0, p1, p2, pf⟩ := HBX.out
    have f0 := pf 0
    have f1 := pf 1
    have f2 := pf 2
    have pb := lt_of_cell p0
    clear pf
    have HP9 := Lib.hid (HBX.out.set 0 (.slice none 0 0) (.slice none 0 0))
    go_wp2
    refine bodyPost_ret (results_cell_tmp rfl _ _ ⟨g2, 0, none⟩ rfl _ (load24 HP9.out.c0 HP9.out.c1 HP9.out.c2)) rfl ?_
    have hres : R = (⟨0, [], []⟩, chk o) := by
      rw [← HR.out]
      unfold RestrictR
      rw [if_neg HC.out]
    rw [hres]
    exact ⟨none, 0, none, 0, rfl, OwnG.nil _ _ _ _ _, OwnG.nil _ _ _ _ _, ((HKX.out.setCell (p := ⟨g2, 0, none⟩) HG2.out _).setCell (p := ⟨g2, 1, none⟩) HG2.out _).setCell (p := ⟨g2, 2, none⟩) HG2.out _⟩
  refine (open_ok o ao bo ca cb w1 (HO.out.kept HK1.out) hc).mono ?_
  rintro e w2 ⟨b, rfl, hw, hk⟩
  have HW := Lib.hid hw
  have HKX := Lib.hid (HK1.out.trans hk)
  have HBX := Lib.hid (HB2.out.kept hk)
  have HC := Lib.hid hc
  clear hw hk hc HK1 HB1 HB2
  go_wp2_with fail
  refine (each_any b (webOf o) keep lo lc w2 HW.out (webOf_n HC.out) (HL.out.kept HKX.out) (by omega)).mono ?_
  rintro e w3 ⟨rfl, rfl⟩
  cases hea : eachB (webOf o).n keep
  case false =>
    have HEA := Lib.hid hea
    clear hea
    obtain ⟨p0, p1, p2, pf⟩ := HBX.out
    have f0 := pf 0
    have f1 := pf 1
    have f2 := pf 2
    have pb := lt_of_cell p0
    clear pf
    have HP9 := Lib.hid (HBX.out.set 0 (.slice none 0 0) (.slice none 0 0))
    go_wp2
    refine bodyPost_ret (results_cell_tmp rfl _ _ ⟨g2, 0, none⟩ rfl _ (load24 HP9.out.c0 HP9.out.c1 HP9.out.c2)) rfl ?_
    have hres : R = (⟨0, [], []⟩, 1) := by
      rw [← HR.out]
      unfold RestrictR
      rw [if_pos HC.out, if_neg (by rw [HEA.out]; simp)]
    rw [hres]
    exact ⟨none, 0, none, 0, rfl, OwnG.nil _ _ _ _ _, OwnG.nil _ _ _ _ _, ((HKX.out.setCell (p := ⟨g2, 0, none⟩) HG2.out _).setCell (p := ⟨g2, 1, none⟩) HG2.out _).setCell (p := ⟨g2, 2, none⟩) HG2.out _⟩
  have HEA := Lib.hid hea
  have HIN := Lib.hid (eachB_iff.1 hea).1
  have HN24 := Lib.hid (webOf_n HC.out)
  have HX : Hid (R = (⟨keep.length, resA (webOf o) keep, resN (webOf o) keep⟩, 0)) := Lib.hid (by
    rw [← HR.out]
    unfold RestrictR
    rw [if_pos HC.out, if_pos HEA.out])
  have HIRR : Hid (∀ p, hasS ((webOf o).to p) p = false) := Lib.hid fun p => webOf_irr HC.out p
  clear hea HR HEA
  go_wp2_with fail
  obtain ⟨w4, e4⟩ : ∃ x, w2.alloc (.cells #[.int .i64 (keep.length : Int), .slice none 0 0, .slice none 0 0] 24) = x := ⟨_, rfl⟩
  obtain ⟨tb, htb⟩ : ∃ x, w2.heap.size = x := ⟨_, rfl⟩
  rw [e4, htb]
  have hk4 : Kept w2 w4 := by rw [← e4]; exact (Kept.refl _).alloc _
  have hpb : PBox w4 tb (keep.length : Int) (.slice none 0 0) (.slice none 0 0) := by
    have h := PBox.new w2 (keep.length : Int) (.slice none 0 0) (.slice none 0 0)
    rw [e4, htb] at h
    exact h
  have HTB : Hid (tb < w4.heap.size ∧ w.heap.size ≤ tb ∧ g2 < tb ∧ b < tb) := Lib.hid ⟨lt_of_cell hpb.c0, by rw [← htb]; exact HKX.out.size, by rw [← htb]; exact lt_of_cell HBX.out.c0, by rw [← htb]; exact lt_of_cell HW.out.n⟩
  have HK4 := Lib.hid (HKX.out.trans hk4)
  have HBX4 := Lib.hid (HBX.out.kept hk4)
  have HW4 := Lib.hid (HW.out.kept hk4)
  have HPB := Lib.hid hpb
  clear hk4 hpb HKX HBX HW e4 htb
  obtain ⟨n, hn⟩ : ∃ n, keep.length = n := ⟨_, rfl⟩
  have HNL := Lib.hid hn
  have hn30 : n ≤ 30 := by omega
  have HKP : Hid (∀ X, FrX w4 X tb → ∀ a, a < n → pick keep a < 24 ∧ ∃ B off, lo = some ⟨B, off, none⟩ ∧ X.cell? ⟨B, off + a, none⟩ = some (.int .i64 (pick keep a : Nat))) := Lib.hid fun X hf a ha => by
    obtain ⟨h1, B, off, e, hc⟩ := keep_at HL.out HIN.out (a := a) (by omega)
    have hlt : B ≠ tb := by have := lt_of_cell hc; have := HTB.out; omega
    exact ⟨by have := HN24.out; omega, B, off, e, hf.cell _ _ _ hlt (HK4.out.cell hc)⟩
  have HTO : Hid (∀ X, FrX w4 X tb → ∀ p, p < 24 → X.cell? ⟨b, 1 + p, none⟩ = some (.int .u32 (sI ((webOf o).to p))) ∧ X.cell? ⟨b, 49 + p, none⟩ = some (.int .u32 (sI ((webOf o).near p)))) := Lib.hid fun X hf p hp => by
    have hne : b ≠ tb := by have := HTB.out; omega
    exact ⟨hf.cell _ _ _ hne (HW4.out.to p hp), hf.cell _ _ _ hne (HW4.out.near p hp)⟩
  rw [hn] at HPB HX ⊢
  obtain ⟨WA, hWA⟩ : ∃ f : Mx, (fun a b => hasS ((webOf o).to (pick keep a)) (pick keep b)) = f := ⟨_, rfl⟩
  obtain ⟨WN, hWN⟩ : ∃ f : Mx, (fun a b => decide (a < b) && hasS ((webOf o).near (pick keep a)) (pick keep b)) = f := ⟨_, rfl⟩
  have HWA : Hid (∀ a b, WA a b = hasS ((webOf o).to (pick keep a)) (pick keep b)) := Lib.hid fun a b => by rw [← hWA]
  have HWN : Hid (∀ a b, WN a b = (decide (a < b) && hasS ((webOf o).near (pick keep a)) (pick keep b))) := Lib.hid fun a b => by rw [← hWN]
  have HRX : Hid (R = (⟨n, keptK WA n n, keptK WN n n⟩, 0)) := Lib.hid (by
    rw [HX.out]
    unfold resA resN
    rw [hWA, hWN, HNL.out])
  clear hWA hWN HX hn HIN
  go_loopw [9, 10, 32] (fun _ _ i wr => ∃ (a : Nat) (va vb : Value), a ≤ n ∧ i = .int .i64 a ∧ Kept w wr ∧ FrX w4 wr tb ∧ TwoL wr w4.heap.size tb (n : Int) va vb (keptK WA n a) (keptK WN n a)) (fun _ _ i _ => n - (intOf i).toNat)
  case atStart => exact ⟨0, _, _, Nat.zero_le _, rfl, HK4.out, FrX.refl _ _, HPB.out, OwnG.nil _ _ _ _ _, OwnG.nil _ _ _ _ _, fun j h => by cases h⟩
  case round =>
    obtain ⟨a, va, vb, ha, rfl, hk, hfr, htl⟩ := hrel
    have HKC := Lib.hid hk
    have HFR := Lib.hid hfr
    have HTL := Lib.hid htl
    clear hk hfr htl
    by_cases halt : a < n
    case neg =>
      obtain rfl : a = n := by omega
      clear halt ha
      have HP9 := Lib.hid (HBX4.out.fr HFR.out (by have := HTB.out; omega))
      obtain ⟨p0, p1, p2, pf⟩ := HTL.out.bx
      have pb := lt_of_cell p0
      obtain ⟨s0, s1, s2, sf⟩ := HP9.out
      have f0 := sf 0
      have f1 := sf 1
      have f2 := sf 2
      have sb := lt_of_cell s0
      clear pf sf
      have hov := HTL.out.b
      have hoa := HTL.out.a
      obtain ⟨ya, yc, rfl, -, -⟩ := hov.prs
      obtain ⟨xa, xc, rfl, -, -⟩ := hoa.prs
      have HV := Lib.hid hov
      have HA := Lib.hid hoa
      clear hov hoa
      have HB9 := Lib.hid (HP9.out.set (a : Int) (.slice xa (keptK WA a a).length xc) (.slice ya (keptK WN a a).length yc))
      go_wp2
      refine bodyPost_ret (results_cell_tmp rfl _ _ ⟨g2, 0, none⟩ rfl _ (load24 HB9.out.c0 HB9.out.c1 HB9.out.c2)) rfl ?_
      have htb := HTB.out
      rw [HRX.out]
      refine ⟨xa, xc, ya, yc, rfl, ?_, ?_, ?_⟩
      · refine OwnG.base' (((HA.out.setBelow (a := ⟨g2, 0, none⟩) ?_ _).setBelow (a := ⟨g2, 1, none⟩) ?_ _).setBelow (a := ⟨g2, 2, none⟩) ?_ _) HK4.out.size
        all_goals (show g2 < _; omega)
      · refine OwnG.base' (((HV.out.setBelow (a := ⟨g2, 0, none⟩) ?_ _).setBelow (a := ⟨g2, 1, none⟩) ?_ _).setBelow (a := ⟨g2, 2, none⟩) ?_ _) HK4.out.size
        all_goals (show g2 < _; omega)
      · exact ((HKC.out.setCell (p := ⟨g2, 0, none⟩) HG2.out _).setCell (p := ⟨g2, 1, none⟩) HG2.out _).setCell (p := ⟨g2, 2, none⟩) HG2.out _
    obtain ⟨hp24, B, off, rfl, hcp⟩ := HKP.out _ HFR.out a halt
    have HAL := Lib.hid halt
    obtain ⟨P, hPP⟩ : ∃ P, pick keep a = P := ⟨_, rfl⟩
    rw [hPP] at hp24 hcp
    have HPP := Lib.hid hPP
    have HP24 := Lib.hid hp24
    clear hPP
    go_wp2
    clear hcp
    go_loopw [11, 12, 39] (fun _ _ i wr => ∃ (k : Nat) (va vb : Value), k ≤ n ∧ i = .int .i64 k ∧ Kept w wr ∧ FrX w4 wr tb ∧ TwoL wr w4.heap.size tb (n : Int) va vb (keptK WA n a ++ rowK WA a k) (keptK WN n a ++ rowK WN a k)) (fun _ _ i _ => n - (intOf i).toNat)
    case atStart =>
      have htl := HTL.out
      have e0 : ∀ f : Mx, keptK f n a ++ rowK f a 0 = keptK f n a := fun f => by simp [rowK]
      exact ⟨0, va, vb, Nat.zero_le _, rfl, HKC.out, HFR.out, by rw [e0, e0]; exact htl⟩
    case round =>
      clear HKC HFR HTL va vb
      obtain ⟨k, va, vb, hk, rfl, hkk, hfr, htl⟩ := hrel
      have HKC := Lib.hid hkk
      have HFR := Lib.hid hfr
      have HTL := Lib.hid htl
      clear hkk hfr htl
      by_cases hklt : k < n
      case neg =>
        obtain rfl : k = n := by omega
        have HKS : Hid (∀ f : Mx, keptK f k (a + 1) = keptK f k a ++ rowK f a k) := Lib.hid fun f => keptK_succ _ _ _
        clear hklt hk
        go_wp2
        go_roundw
        case measure => have := HAL.out; simp [intOf] <;> omega
        case rel => exact ⟨a + 1, va, vb, HAL.out, by go_num, HKC.out, HFR.out, by rw [HKS.out, HKS.out]; exact HTL.out⟩
      have HKL := Lib.hid hklt
      obtain ⟨hq24, B', off', ead, hcq⟩ := HKP.out _ HFR.out k hklt
      cases ead
      obtain ⟨Q, hQQ⟩ : ∃ Q, pick keep k = Q := ⟨_, rfl⟩
      rw [hQQ] at hq24 hcq
      have cql := lt_of_cell hcq
      have hto := (HTO.out _ HFR.out P hp24).1
      have tol := lt_of_cell hto
      have HQ24 := Lib.hid hq24
      have HWAK : Hid (WA a k = hasS ((webOf o).to P) Q) := Lib.hid (by rw [HWA.out, HPP.out, hQQ])
      have HWNK : Hid (WN a k = (decide (a < k) && hasS ((webOf o).near P) Q)) := Lib.hid (by rw [HWN.out, HPP.out, hQQ])
      have HIRK : Hid (a = k → hasS ((webOf o).to P) Q = false) := Lib.hid fun e => by
        subst e
        rw [← hQQ, HPP.out]
        exact HIRR.out P
      have HLA : Hid ((keptK WA n a ++ rowK WA a k).length < 10000 ∧ (keptK WN n a ++ rowK WN a k).length < 10000) := Lib.hid (by
        have h1 := keptK_len WA n a
        have h2 := rowK_len WA a k
        have h4 := keptK_len WN n a
        have h5 := rowK_len WN a k
        have h3 : a * n ≤ 30 * 30 := Nat.mul_le_mul (by omega) hn30
        rw [List.length_append, List.length_append]
        omega)
      clear hQQ
      go_wp2_with fail
      clear hcq cql hto tol
      refine (has_any ((webOf o).to P) Q wr (by omega)).mono ?_
      rintro e w7 ⟨rfl, hw7⟩
      subst hw7
      obtain ⟨hv, hhv⟩ : ∃ hv, hasS ((webOf o).to P) Q = hv := ⟨_, rfl⟩
      rw [hhv]
      have HRA : Hid (rowK WA a (k + 1) = rowK WA a k ++ if hv = true then [((a : Int), (k : Int))] else []) := Lib.hid (rowK_eq (by
        rw [HWAK.out, hhv]
        by_cases e : a = k
        · have := HIRK.out e
          rw [hhv] at this
          rw [this, Bool.and_false]
        · rw [decide_eq_true e, Bool.true_and]))
      clear hhv
      cases hv
      case false =>
        go_upto_region 15 with fail
        have HRA2 : Hid (rowK WA a (k + 1) = rowK WA a k) := Lib.hid (by rw [HRA.out, if_neg (by simp), List.append_nil])
        have HTX : Hid (TwoL wr w4.heap.size tb (n : Int) va vb (keptK WA n a ++ rowK WA a (k + 1)) (keptK WN n a ++ rowK WN a k)) := Lib.hid (by rw [HRA2.out]; exact HTL.out)
        by_cases hak : a < k
        case neg =>
          have e1 : decide ((a : Int) < (k : Int)) = false := decide_eq_false (by omega)
          have e2 : decide (a < k) = false := decide_eq_false hak
          have HRN : Hid (rowK WN a (k + 1) = rowK WN a k) := Lib.hid (rowK_no (.inr (by rw [HWNK.out, decide_eq_false hak, Bool.false_and])))
          clear hak
          go_wp2
          go_roundw
          case measure => have := HKL.out; simp [intOf] <;> omega
          case rel => exact ⟨k + 1, va, vb, HKL.out, by go_num, HKC.out, HFR.out, by rw [HRN.out]; exact HTX.out⟩
        have e1 : decide ((a : Int) < (k : Int)) = true := decide_eq_true (by omega)
        have e2 : decide (a < k) = true := decide_eq_true hak
        have HAK := Lib.hid hak
        clear hak
        have hnr := (HTO.out _ HFR.out P hp24).2
        have nrl := lt_of_cell hnr
        go_wp2_with fail
        clear hnr nrl e1 e2
        refine (has_any ((webOf o).near P) Q wr (by omega)).mono ?_
        rintro e w9 ⟨rfl, hw9⟩
        subst hw9
        obtain ⟨hv, hhv⟩ : ∃ hv, hasS ((webOf o).near P) Q = hv := ⟨_, rfl⟩
        rw [hhv]
        have HRN : Hid (rowK WN a (k + 1) = rowK WN a k ++ if hv = true then [((a : Int), (k : Int))] else []) := Lib.hid (rowK_eq (by
          have := HAK.out
          rw [HWNK.out, hhv, decide_eq_true this, Bool.true_and, decide_eq_true (show a ≠ k by omega), Bool.true_and]))
        clear hhv
        cases hv
        case false =>
          go_wp2
          go_roundw
          case measure => have := HKL.out; simp [intOf] <;> omega
          case rel => exact ⟨k + 1, va, vb, HKL.out, by go_num, HKC.out, HFR.out, by rw [HRN.out, if_neg (by simp), List.append_nil]; exact HTX.out⟩
        case true =>
          have HFX := HFR
          obtain ⟨p0, p1, p2, pf⟩ := HTX.out.bx
          have f1 := pf 2
          have pb := lt_of_cell p0
          clear pf
          go_wp2_with (first | (at_builtin; refine append_pair1 (wr.alloc (.cells #[.int .i64 (a : Int), .int .i64 (k : Int)] 83)) rfl _ _ rfl w4.heap.size vb _ rfl (HTX.out.b.kept ((Kept.refl _).alloc _)) wr.heap.size ((a : Int), (k : Int)) rfl (by constructor <;> simp [go_sem]) (by have := HLA.out; omega) (by have := HFX.out.size; simp; omega) ?_; intro rb rd w8 hown hg hj; have HTN := Lib.hid (HTX.out.appB HTB.out.1 ((Kept.refl _).alloc _) hown hg hj); have HGN := Lib.hid hg; have HB8 : Hid (PBox w8 tb (n : Int) va vb) := Lib.hid ((HTX.out.bx.kept ((Kept.refl _).alloc _)).grownNe hg (fun e => by have := (HTX.out.b.lt tb e.symm).1; have := HTB.out; omega)); clear hown hg hj p0 p1 p2 f1 pb; obtain ⟨p0, p1, p2, pf⟩ := HB8.out; have f1 := pf 2; have pb := lt_of_cell p0; clear pf) | fail)
          go_roundw
          case measure => have := HKL.out; simp [intOf] <;> omega
          case rel =>
            have htb := HTB.out
            refine ⟨k + 1, va, .slice rb ((keptK WN n a ++ rowK WN a k).length + 1) rd, HKL.out, by go_num, ?_, ?_, ?_⟩
            · exact ((HKC.out.trans ((Kept.refl _).alloc _)).grown HGN.out (fun r e => by have := (HTX.out.b.lt r e).1; omega)).setCell (p := ⟨tb, 2, none⟩) (by show _ ≤ tb; omega) _
            · exact HFR.out.step ((Kept.refl _).alloc _) HGN.out (fun r e => (HTX.out.b.lt r e).1) _ _
            · have hl : (keptK WN n a).length + (rowK WN a k).length = (keptK WN n a ++ rowK WN a k).length := List.length_append.symm
              rw [HRN.out]
              simp only [if_true, ← List.append_assoc]
              rw [hl]
              exact HTN.out
      case true =>
        have HFX := HFR
        obtain ⟨p0, p1, p2, pf⟩ := HTL.out.bx
        have f1 := pf 1
        have pb := lt_of_cell p0
        clear pf
        go_upto_region 15 with (first | (at_builtin; refine append_pair1 (wr.alloc (.cells #[.int .i64 (a : Int), .int .i64 (k : Int)] 83)) rfl _ _ rfl w4.heap.size va _ rfl (HTL.out.a.kept ((Kept.refl _).alloc _)) wr.heap.size ((a : Int), (k : Int)) rfl (by constructor <;> simp [go_sem]) (by have := HLA.out; omega) (by have := HFX.out.size; simp; omega) ?_; intro ra rc w8 hown hg hj; have HTN := Lib.hid (HTL.out.appA HTB.out.1 ((Kept.refl _).alloc _) hown hg hj); have HGN := Lib.hid hg; have HB8 : Hid (PBox w8 tb (n : Int) va vb) := Lib.hid ((HTL.out.bx.kept ((Kept.refl _).alloc _)).grownNe hg (fun e => by have := (HTL.out.a.lt tb e.symm).1; have := HTB.out; omega)); clear hown hg hj p0 p1 p2 f1 pb; obtain ⟨p0, p1, p2, pf⟩ := HB8.out; have f1 := pf 1; have pb := lt_of_cell p0; clear pf) | fail)
        clear p0 p1 p2 f1 pb
        have hl : (keptK WA n a ++ rowK WA a k).length = (keptK WA n a).length + (rowK WA a k).length := List.length_append
        have HTX : Hid (TwoL (w8.setCell ⟨tb, 1, none⟩ (.slice ra ((keptK WA n a).length + (rowK WA a k).length + 1) rc)) w4.heap.size tb (n : Int) (.slice ra ((keptK WA n a).length + (rowK WA a k).length + 1) rc) vb (keptK WA n a ++ rowK WA a (k + 1)) (keptK WN n a ++ rowK WN a k)) := Lib.hid (by
          have htn := HTN.out
          rw [hl] at htn
          rw [HRA.out]
          simp only [if_true, ← List.append_assoc]
          exact htn)
        have HKX : Hid (Kept w (w8.setCell ⟨tb, 1, none⟩ (.slice ra ((keptK WA n a).length + (rowK WA a k).length + 1) rc))) := Lib.hid (by
          have htb := HTB.out
          exact ((HKC.out.trans ((Kept.refl _).alloc _)).grown HGN.out (fun r e => by have := (HTL.out.a.lt r e).1; omega)).setCell (p := ⟨tb, 1, none⟩) (by show _ ≤ tb; omega) _)
        have HFX2 : Hid (FrX w4 (w8.setCell ⟨tb, 1, none⟩ (.slice ra ((keptK WA n a).length + (rowK WA a k).length + 1) rc)) tb) := Lib.hid (HFR.out.step ((Kept.refl _).alloc _) HGN.out (fun r e => (HTL.out.a.lt r e).1) _ _)
        clear HTN HGN HB8 HFX
        clear hl
        generalize (keptK WA n a).length + (rowK WA a k).length + 1 = lenA at *
        generalize w8.setCell ⟨tb, 1, none⟩ (.slice ra lenA rc) = wx at *
        by_cases hak : a < k
        case neg =>
          have e1 : decide ((a : Int) < (k : Int)) = false := decide_eq_false (by omega)
          have e2 : decide (a < k) = false := decide_eq_false hak
          have HRN : Hid (rowK WN a (k + 1) = rowK WN a k) := Lib.hid (rowK_no (.inr (by rw [HWNK.out, decide_eq_false hak, Bool.false_and])))
          clear hak
          go_wp2
          go_roundw
          case measure => have := HKL.out; simp [intOf] <;> omega
          case rel => exact ⟨k + 1, (.slice ra lenA rc), vb, HKL.out, by go_num, HKX.out, HFX2.out, by rw [HRN.out]; exact HTX.out⟩
        have e1 : decide ((a : Int) < (k : Int)) = true := decide_eq_true (by omega)
        have e2 : decide (a < k) = true := decide_eq_true hak
        have HAK := Lib.hid hak
        clear hak
        have hnr := (HTO.out _ HFX2.out P hp24).2
        have nrl := lt_of_cell hnr
        go_wp2_with fail
        clear hnr nrl e1 e2
        refine (has_any ((webOf o).near P) Q wx (by omega)).mono ?_
        rintro e w9 ⟨rfl, hw9⟩
        subst hw9
        obtain ⟨hv, hhv⟩ : ∃ hv, hasS ((webOf o).near P) Q = hv := ⟨_, rfl⟩
        rw [hhv]
        have HRN : Hid (rowK WN a (k + 1) = rowK WN a k ++ if hv = true then [((a : Int), (k : Int))] else []) := Lib.hid (rowK_eq (by
          have := HAK.out
          rw [HWNK.out, hhv, decide_eq_true this, Bool.true_and, decide_eq_true (show a ≠ k by omega), Bool.true_and]))
        clear hhv
        cases hv
        case false =>
          go_wp2
          go_roundw
          case measure => have := HKL.out; simp [intOf] <;> omega
          case rel => exact ⟨k + 1, (.slice ra lenA rc), vb, HKL.out, by go_num, HKX.out, HFX2.out, by rw [HRN.out, if_neg (by simp), List.append_nil]; exact HTX.out⟩
        case true =>
          have HFX := HFX2
          obtain ⟨p0, p1, p2, pf⟩ := HTX.out.bx
          have f1 := pf 2
          have pb := lt_of_cell p0
          clear pf
          go_wp2_with (first | (at_builtin; refine append_pair1 (wx.alloc (.cells #[.int .i64 (a : Int), .int .i64 (k : Int)] 83)) rfl _ _ rfl w4.heap.size vb _ rfl (HTX.out.b.kept ((Kept.refl _).alloc _)) wx.heap.size ((a : Int), (k : Int)) rfl (by constructor <;> simp [go_sem]) (by have := HLA.out; omega) (by have := HFX.out.size; simp; omega) ?_; intro rb rd w8 hown hg hj; have HTN := Lib.hid (HTX.out.appB HTB.out.1 ((Kept.refl _).alloc _) hown hg hj); have HGN := Lib.hid hg; have HB8 : Hid (PBox w8 tb (n : Int) (.slice ra lenA rc) vb) := Lib.hid ((HTX.out.bx.kept ((Kept.refl _).alloc _)).grownNe hg (fun e => by have := (HTX.out.b.lt tb e.symm).1; have := HTB.out; omega)); clear hown hg hj p0 p1 p2 f1 pb; obtain ⟨p0, p1, p2, pf⟩ := HB8.out; have f1 := pf 2; have pb := lt_of_cell p0; clear pf) | fail)
          go_roundw
          case measure => have := HKL.out; simp [intOf] <;> omega
          case rel =>
            have htb := HTB.out
            refine ⟨k + 1, (.slice ra lenA rc), .slice rb ((keptK WN n a ++ rowK WN a k).length + 1) rd, HKL.out, by go_num, ?_, ?_, ?_⟩
            · exact ((HKX.out.trans ((Kept.refl _).alloc _)).grown HGN.out (fun r e => by have := (HTX.out.b.lt r e).1; omega)).setCell (p := ⟨tb, 2, none⟩) (by show _ ≤ tb; omega) _
            · exact HFX2.out.step ((Kept.refl _).alloc _) HGN.out (fun r e => (HTX.out.b.lt r e).1) _ _
            · have hl : (keptK WN n a).length + (rowK WN a k).length = (keptK WN n a ++ rowK WN a k).length := List.length_append.symm
              rw [HRN.out]
              simp only [if_true, ← List.append_assoc]
              rw [hl]
              exact HTN.out
end Go.Proofs.Yteljjkghjbofnaa
