/- Plain law of OrderJoins. -/
import Derived.Test.YteljjkghjbofnaaNe
/-! Plain law of OrderJoins. -/
set_option maxRecDepth 100000
namespace Go.Proofs.Yteljjkghjbofnaa
open Go Go.Proofs Go.RowKit

theorem uniP_comm {A B : List (Int × Int)} (hA : A.Pairwise (fun a b => cmpP a b < 0)) (hB : B.Pairwise (fun a b => cmpP a b < 0)) : uniP B A = uniP A B := by
  have h1 := uniP_union B A hA
  have h2 := uniP_union A B hB
  exact strict_ext h2.1 h1.1 fun x => by rw [h1.2, h2.2]; exact or_comm
theorem uniP_self {A : List (Int × Int)} (hA : A.Pairwise (fun a b => cmpP a b < 0)) : uniP A A = A :=
  strict_ext (uniP_union A A hA).1 hA fun x => by rw [(uniP_union A A hA).2]; simp
theorem joinR_parts {o p : Prob} (h : (JoinR o p).2 = 0) : chk o = 0 ∧ chk p = 0 ∧ o.N = p.N ∧ (JoinR o p).1 = ⟨o.N, uniP o.arcs p.arcs, uniP o.near p.near⟩ := by
  unfold JoinR at *
  by_cases h1 : chk o = 0
  · rw [if_neg (by simp [h1])] at h ⊢
    by_cases h2 : chk p = 0
    · rw [if_neg (by simp [h2])] at h ⊢
      by_cases h3 : o.N = p.N
      · rw [if_neg (by simp [h3])]
        exact ⟨h1, h2, h3, rfl⟩
      · rw [if_pos h3] at h
        cases h
    · rw [if_pos h2] at h
      exact absurd h h2
  · rw [if_pos h1] at h
    exact absurd h h1
theorem join_comm {o p : Prob} (h : (JoinR o p).2 = 0) : JoinR p o = JoinR o p := by
  obtain ⟨h1, h2, h3, -⟩ := joinR_parts h
  have e1 : ¬ chk o ≠ 0 := fun h => h h1
  have e2 : ¬ chk p ≠ 0 := fun h => h h2
  have e3 : ¬ o.N ≠ p.N := fun h => h h3
  have e4 : ¬ p.N ≠ o.N := fun h => h h3.symm
  simp only [JoinR, if_neg e1, if_neg e2, if_neg e3, if_neg e4]
  rw [uniP_comm (risB_pw.1 (chk_parts h1)) (risB_pw.1 (chk_parts h2)), uniP_comm (risB_pw.1 (chk_near_ris h1)) (risB_pw.1 (chk_near_ris h2)), h3]
theorem join_self {o : Prob} (h1 : chk o = 0) : JoinR o o = (o, 0) := by
  have e1 : ¬ chk o ≠ 0 := fun h => h h1
  have e2 : ¬ o.N ≠ o.N := fun h => h rfl
  simp only [JoinR, if_neg e1, if_neg e2]
  rw [uniP_self (risB_pw.1 (chk_parts h1)), uniP_self (risB_pw.1 (chk_near_ris h1))]

/-! ### Restrict -/
/-- Where n is in a list, counted from i. -/
def idxF (n : Int) : List Int → Nat → Int
  | [], _ => -1
  | x :: t, i => if x = n then (i : Int) else idxF n t (i + 1)
theorem idxF_cases (n : Int) : ∀ (l : List Int) (i : Nat), (n ∉ l ∧ idxF n l i = -1) ∨ ∃ a, ∃ h : a < l.length, l[a] = n ∧ idxF n l i = ((i + a : Nat) : Int)
  | [], i => .inl ⟨by simp, rfl⟩
  | x :: t, i => by
    unfold idxF
    by_cases hx : x = n
    · rw [if_pos hx]
      exact .inr ⟨0, by simp, hx, rfl⟩
    · rw [if_neg hx]
      rcases idxF_cases n t (i + 1) with ⟨h1, h2⟩ | ⟨a, ha, h1, h2⟩
      · refine .inl ⟨?_, h2⟩
        simp only [List.mem_cons, not_or]
        exact ⟨fun h => hx h.symm, h1⟩
      · refine .inr ⟨a + 1, by simp; omega, ?_, ?_⟩
        · rw [List.getElem_cons_succ]; exact h1
        · rw [h2]
          congr 1
          omega
def idxR (keep : List Int) (n : Int) : Int := idxF n keep 0
section
variable {keep : List Int}
theorem idxR_at (hnd : keep.Nodup) {a : Nat} (ha : a < keep.length) : idxR keep keep[a] = a := by
  rcases idxF_cases keep[a] keep 0 with ⟨h1, h2⟩ | ⟨b, hb, h1, h2⟩
  · exact absurd (List.getElem_mem ha) h1
  · have : b = a := (List.getElem_inj hnd).1 h1
    subst this
    show idxF _ _ _ = _
    rw [h2]
    congr 1
    omega
theorem idxR_pos (hnd : keep.Nodup) {n : Int} (h : 0 ≤ idxR keep n) : ∃ a, ∃ h : a < keep.length, keep[a] = n ∧ idxR keep n = a := by
  rcases idxF_cases n keep 0 with ⟨h1, h2⟩ | ⟨b, hb, h1, h2⟩
  · have h3 : idxR keep n = -1 := h2
    omega
  · exact ⟨b, hb, h1, by rw [← h1]; exact idxR_at hnd hb⟩
end
def pick (keep : List Int) (a : Nat) : Nat := (keep.getD a 0).toNat
def resA (W : Web) (keep : List Int) : List (Int × Int) := keptK (fun a b => hasS (W.to (pick keep a)) (pick keep b)) keep.length keep.length
def resN (W : Web) (keep : List Int) : List (Int × Int) := keptK (fun a b => decide (a < b) && hasS (W.near (pick keep a)) (pick keep b)) keep.length keep.length
def RestrictR (o : Prob) (keep : List Int) : Prob × Int :=
  if chk o = 0 then (if eachB (webOf o).n keep = true then (⟨keep.length, resA (webOf o) keep, resN (webOf o) keep⟩, 0) else (⟨0, [], []⟩, 1)) else (⟨0, [], []⟩, chk o)
def stepA (keep : List Int) (out : List (Int × Int)) (x : Int × Int) : List (Int × Int) := if 0 ≤ idxR keep x.1 ∧ 0 ≤ idxR keep x.2 then insP out (idxR keep x.1, idxR keep x.2) else out
def stepN (keep : List Int) (out : List (Int × Int)) (x : Int × Int) : List (Int × Int) := if 0 ≤ idxR keep x.1 ∧ 0 ≤ idxR keep x.2 then insP out (min (idxR keep x.1) (idxR keep x.2), max (idxR keep x.1) (idxR keep x.2)) else out
theorem foldS_facts {step : List (Int × Int) → Int × Int → List (Int × Int)} {P : Int × Int → Prop} {f : Int × Int → Int × Int} (hy : ∀ out x, P x → step out x = insP out (f x)) (hn : ∀ out x, ¬ P x → step out x = out) :
    ∀ (l out : List (Int × Int)), out.Pairwise (fun a b => cmpP a b < 0) → (l.foldl step out).Pairwise (fun a b => cmpP a b < 0) ∧ ∀ y, y ∈ l.foldl step out ↔ y ∈ out ∨ ∃ x ∈ l, P x ∧ y = f x
  | [], out, h => ⟨h, fun y => by simp⟩
  | x :: l, out, h => by
    rw [List.foldl_cons]
    by_cases hp : P x
    · rw [hy out x hp]
      obtain ⟨h1, h2⟩ := foldS_facts hy hn l (insP out (f x)) (insP_lt _ _ h)
      refine ⟨h1, fun y => ?_⟩
      rw [h2, insP_mem]
      constructor
      · rintro ((h | h) | ⟨z, hz, h⟩)
        · exact .inl h
        · exact .inr ⟨x, by simp, hp, h⟩
        · exact .inr ⟨z, List.mem_cons_of_mem _ hz, h⟩
      · rintro (h | ⟨z, hz, h3, h4⟩)
        · exact .inl (.inl h)
        · rcases List.mem_cons.1 hz with rfl | hz
          · exact .inl (.inr h4)
          · exact .inr ⟨z, hz, h3, h4⟩
    · rw [hn out x hp]
      obtain ⟨h1, h2⟩ := foldS_facts hy hn l out h
      refine ⟨h1, fun y => ?_⟩
      rw [h2]
      constructor
      · rintro (h | ⟨z, hz, h⟩)
        · exact .inl h
        · exact .inr ⟨z, List.mem_cons_of_mem _ hz, h⟩
      · rintro (h | ⟨z, hz, h3, h4⟩)
        · exact .inl h
        · rcases List.mem_cons.1 hz with rfl | hz
          · exact absurd h3 hp
          · exact .inr ⟨z, hz, h3, h4⟩
theorem stepA_facts (keep : List Int) (l : List (Int × Int)) : (l.foldl (stepA keep) []).Pairwise (fun a b => cmpP a b < 0) ∧ ∀ y, y ∈ l.foldl (stepA keep) [] ↔ ∃ x ∈ l, (0 ≤ idxR keep x.1 ∧ 0 ≤ idxR keep x.2) ∧ y = (idxR keep x.1, idxR keep x.2) := by
  obtain ⟨h1, h2⟩ := foldS_facts (step := stepA keep) (P := fun x => 0 ≤ idxR keep x.1 ∧ 0 ≤ idxR keep x.2) (f := fun x => (idxR keep x.1, idxR keep x.2)) (fun out x h => if_pos h) (fun out x h => if_neg h) l [] List.Pairwise.nil
  exact ⟨h1, fun y => by rw [h2]; simp⟩
theorem stepN_facts (keep : List Int) (l : List (Int × Int)) : (l.foldl (stepN keep) []).Pairwise (fun a b => cmpP a b < 0) ∧ ∀ y, y ∈ l.foldl (stepN keep) [] ↔ ∃ x ∈ l, (0 ≤ idxR keep x.1 ∧ 0 ≤ idxR keep x.2) ∧ y = (min (idxR keep x.1) (idxR keep x.2), max (idxR keep x.1) (idxR keep x.2)) := by
  obtain ⟨h1, h2⟩ := foldS_facts (step := stepN keep) (P := fun x => 0 ≤ idxR keep x.1 ∧ 0 ≤ idxR keep x.2) (f := fun x => (min (idxR keep x.1) (idxR keep x.2), max (idxR keep x.1) (idxR keep x.2))) (fun out x h => if_pos h) (fun out x h => if_neg h) l [] List.Pairwise.nil
  exact ⟨h1, fun y => by rw [h2]; simp⟩
theorem eachB_iff {n : Nat} {l : List Int} : eachB n l = true ↔ (∀ p ∈ l, 0 ≤ p ∧ p < (n : Int)) ∧ l.Nodup := by
  unfold eachB
  rw [decide_eq_true_eq]
theorem pick_at {keep : List Int} {n : Nat} (hin : ∀ p ∈ keep, 0 ≤ p ∧ p < (n : Int)) {a : Nat} (ha : a < keep.length) : ((pick keep a : Nat) : Int) = keep[a] := by
  unfold pick
  rw [getD_mem ha]
  have := hin _ (List.getElem_mem ha)
  omega
theorem rest_arcs {o : Prob} {keep : List Int} (hc : chk o = 0) (hk : eachB (webOf o).n keep = true) : o.arcs.foldl (stepA keep) [] = resA (webOf o) keep := by
  obtain ⟨hin, hnd⟩ := eachB_iff.1 hk
  obtain ⟨p1, p2, p3, p4⟩ := pair_of_chk hc
  obtain ⟨h1, h2⟩ := stepA_facts keep o.arcs
  refine strict_ext h1 (keptK_ris _ _ _) fun y => ?_
  unfold resA
  rw [h2, mem_keptK]
  have hto := toS_has o.arcs (fun x hx => by have := p3 x hx; omega)
  constructor
  · rintro ⟨x, hx, ⟨ha, hb⟩, rfl⟩
    obtain ⟨a, ha', ea, ia⟩ := idxR_pos hnd ha
    obtain ⟨b, hb', eb, ib⟩ := idxR_pos hnd hb
    have hx3 := p3 x hx
    refine ⟨a, b, ha', hb', ?_, ?_, by rw [ia, ib]⟩
    · rintro rfl
      exact hx3.2.2.2.2 (ea.symm.trans eb)
    · have e1 := pick_at hin ha'
      have e2 := pick_at hin hb'
      exact (hto _ _).2 ⟨x, hx, by omega, by omega⟩
  · rintro ⟨a, b, ha, hb, hab, hw, rfl⟩
    obtain ⟨x, hx, e1, e2⟩ := (hto _ _).1 hw
    have hx3 := p3 x hx
    have f1 := pick_at hin ha
    have f2 := pick_at hin hb
    have g1 : x.1 = keep[a] := by omega
    have g2 : x.2 = keep[b] := by omega
    have i1 := idxR_at hnd ha
    have i2 := idxR_at hnd hb
    refine ⟨x, hx, ?_, ?_⟩
    · rw [g1, g2, i1, i2]; omega
    · rw [g1, g2, i1, i2]
theorem rest_near {o : Prob} {keep : List Int} (hc : chk o = 0) (hk : eachB (webOf o).n keep = true) : o.near.foldl (stepN keep) [] = resN (webOf o) keep := by
  obtain ⟨hin, hnd⟩ := eachB_iff.1 hk
  obtain ⟨p1, p2, p3, p4⟩ := pair_of_chk hc
  obtain ⟨h1, h2⟩ := stepN_facts keep o.near
  refine strict_ext h1 (keptK_ris _ _ _) fun y => ?_
  unfold resN
  rw [h2, mem_keptK]
  have hnr : ∀ a b, hasS ((webOf o).near a) b = true ↔ ∃ x ∈ o.near, (x.1.toNat = a ∧ x.2.toNat = b) ∨ (x.1.toNat = b ∧ x.2.toNat = a) := fun a b => by
    have h := nearS_has o.near (fun _ => 0#32) (fun x hx => by have := p4 x hx; omega) a b
    constructor
    · intro h3
      rcases h.1 h3 with h4 | h4
      · simp [hasS] at h4
      · exact h4
    · intro h3
      exact h.2 (.inr h3)
  constructor
  · rintro ⟨x, hx, ⟨ha, hb⟩, rfl⟩
    obtain ⟨a, ha', ea, ia⟩ := idxR_pos hnd ha
    obtain ⟨b, hb', eb, ib⟩ := idxR_pos hnd hb
    have hx3 := p4 x hx
    have e1 := pick_at hin ha'
    have e2 := pick_at hin hb'
    have hne : a ≠ b := by
      rintro rfl
      omega
    rw [ia, ib]
    by_cases hlt : a < b
    · refine ⟨a, b, ha', hb', hne, ?_, by rw [Int.min_eq_left (by omega), Int.max_eq_right (by omega)]⟩
      rw [decide_eq_true hlt, Bool.true_and]
      exact (hnr _ _).2 ⟨x, hx, .inl ⟨by omega, by omega⟩⟩
    · refine ⟨b, a, hb', ha', fun h => hne h.symm, ?_, by rw [Int.min_eq_right (by omega), Int.max_eq_left (by omega)]⟩
      rw [decide_eq_true (show b < a by omega), Bool.true_and]
      exact (hnr _ _).2 ⟨x, hx, .inr ⟨by omega, by omega⟩⟩
  · rintro ⟨a, b, ha, hb, hab, hw, rfl⟩
    rw [Bool.and_eq_true, decide_eq_true_eq] at hw
    obtain ⟨hlt, hw⟩ := hw
    obtain ⟨x, hx, e⟩ := (hnr _ _).1 hw
    have hx3 := p4 x hx
    have f1 := pick_at hin ha
    have f2 := pick_at hin hb
    have i1 := idxR_at hnd ha
    have i2 := idxR_at hnd hb
    rcases e with ⟨e1, e2⟩ | ⟨e1, e2⟩
    · have g1 : x.1 = keep[a] := by omega
      have g2 : x.2 = keep[b] := by omega
      refine ⟨x, hx, ?_, ?_⟩
      · rw [g1, g2, i1, i2]; omega
      · rw [g1, g2, i1, i2, Int.min_eq_left (by omega), Int.max_eq_right (by omega)]
    · have g1 : x.1 = keep[b] := by omega
      have g2 : x.2 = keep[a] := by omega
      refine ⟨x, hx, ?_, ?_⟩
      · rw [g1, g2, i1, i2]; omega
      · rw [g1, g2, i1, i2, Int.min_eq_right (by omega), Int.max_eq_left (by omega)]
/-- All patches. -/
def allI (n : Nat) : List Int := (List.range n).map fun k : Nat => (k : Int)
theorem allI_len (n : Nat) : (allI n).length = n := by simp [allI]
theorem allI_each (n : Nat) : eachB n (allI n) = true := by
  refine eachB_iff.2 ⟨fun p hp => ?_, ?_⟩
  · unfold allI at hp
    obtain ⟨k, hk, rfl⟩ := List.mem_map.1 hp
    have := List.mem_range.1 hk
    omega
  · unfold allI
    rw [List.nodup_iff_pairwise_ne, List.pairwise_map]
    exact List.Pairwise.imp (fun h => by omega) List.nodup_range
theorem allI_pick {n a : Nat} (ha : a < n) : pick (allI n) a = a := by
  unfold pick
  rw [getD_mem (by rw [allI_len]; exact ha)]
  simp [allI]
theorem rest_all {o : Prob} (hc : chk o = 0) : RestrictR o (allI (webOf o).n) = (o, 0) := by
  unfold RestrictR
  rw [if_pos hc, if_pos (allI_each _)]
  obtain ⟨p1, p2, p3, p4⟩ := pair_of_chk hc
  have hN := webOf_nI hc
  have ea : resA (webOf o) (allI (webOf o).n) = o.arcs := by
    refine strict_ext (keptK_ris _ _ _) (risB_pw.1 (chk_parts hc)) fun y => ?_
    unfold resA
    rw [mem_keptK, allI_len]
    have hto := toS_has o.arcs (fun x hx => by have := p3 x hx; omega)
    constructor
    · rintro ⟨a, b, ha, hb, hab, hw, rfl⟩
      rw [allI_pick ha, allI_pick hb] at hw
      obtain ⟨x, hx, e1, e2⟩ := (hto _ _).1 hw
      have hx3 := p3 x hx
      have : x = ((a : Int), (b : Int)) := Prod.ext (by show x.1 = _; omega) (by show x.2 = _; omega)
      rw [← this]; exact hx
    · intro hy
      have hx3 := p3 y hy
      refine ⟨y.1.toNat, y.2.toNat, by omega, by omega, by omega, ?_, Prod.ext (by show y.1 = _; omega) (by show y.2 = _; omega)⟩
      rw [allI_pick (by omega), allI_pick (by omega)]
      exact (hto _ _).2 ⟨y, hy, rfl, rfl⟩
  have en : resN (webOf o) (allI (webOf o).n) = o.near := by
    refine strict_ext (keptK_ris _ _ _) (risB_pw.1 (chk_near_ris hc)) fun y => ?_
    unfold resN
    rw [mem_keptK, allI_len]
    have hnr : ∀ a b, hasS ((webOf o).near a) b = true ↔ ∃ x ∈ o.near, (x.1.toNat = a ∧ x.2.toNat = b) ∨ (x.1.toNat = b ∧ x.2.toNat = a) := fun a b => by
      have h := nearS_has o.near (fun _ => 0#32) (fun x hx => by have := p4 x hx; omega) a b
      constructor
      · intro h3
        rcases h.1 h3 with h4 | h4
        · simp [hasS] at h4
        · exact h4
      · intro h3
        exact h.2 (.inr h3)
    constructor
    · rintro ⟨a, b, ha, hb, hab, hw, rfl⟩
      rw [allI_pick ha, allI_pick hb, Bool.and_eq_true, decide_eq_true_eq] at hw
      obtain ⟨hlt, hw⟩ := hw
      obtain ⟨x, hx, e⟩ := (hnr _ _).1 hw
      have hx3 := p4 x hx
      rcases e with ⟨e1, e2⟩ | ⟨e1, e2⟩
      · have : x = ((a : Int), (b : Int)) := Prod.ext (by show x.1 = _; omega) (by show x.2 = _; omega)
        rw [← this]; exact hx
      · omega
    · intro hy
      have hx3 := p4 y hy
      refine ⟨y.1.toNat, y.2.toNat, by omega, by omega, by omega, ?_, Prod.ext (by show y.1 = _; omega) (by show y.2 = _; omega)⟩
      rw [allI_pick (by omega), allI_pick (by omega), Bool.and_eq_true, decide_eq_true_eq]
      exact ⟨by omega, (hnr _ _).2 ⟨y, hy, .inl ⟨rfl, rfl⟩⟩⟩
  rw [ea, en, allI_len, hN]
theorem FrX.setJ {X Y : World} {bx : Nat} (h : FrX X Y bx) (o' : Nat) (u : Value) : FrX X (Y.setCell ⟨bx, o', none⟩ u) bx :=
  h.step (Kept.refl _) (row := none) ⟨rfl, rfl, rfl, Nat.le_refl _, fun _ _ _ => rfl⟩ (fun r e => by cases e) o' u
end Go.Proofs.Yteljjkghjbofnaa
