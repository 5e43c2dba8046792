/- order.Join. -/
import Derived.Test.YteljjkghjbofnaaKd
import Derived.Deep.RegionHeld3
set_option maxRecDepth 100000
namespace Go.Proofs.Yteljjkghjbofnaa
open Go Go.Proofs Go.RowKit
attribute [local go_sem] Oper.semAt_some

/-- x put into its place in l, if it is not there. -/
def insP : List (Int × Int) → Int × Int → List (Int × Int)
  | [], x => [x]
  | y :: t, x => if cmpP y x < 0 then y :: insP t x else if y = x then y :: t else x :: y :: t
def uniP (A B : List (Int × Int)) : List (Int × Int) := B.foldl insP A

theorem insP_mem : ∀ (l : List (Int × Int)) (x y : Int × Int), y ∈ insP l x ↔ y ∈ l ∨ y = x
  | [], x, y => by simp [insP]
  | z :: t, x, y => by
    unfold insP
    split
    · rw [List.mem_cons, insP_mem t x y, List.mem_cons, or_assoc]
    · split
      · rename_i h1 h2
        subst h2
        simp only [List.mem_cons]
        constructor
        · intro h; exact .inl h
        · rintro (h | rfl)
          · exact h
          · exact .inl rfl
      · simp only [List.mem_cons]
        constructor
        · rintro (h | h | h)
          · exact .inr h
          · exact .inl (.inl h)
          · exact .inl (.inr h)
        · rintro ((h | h) | h)
          · exact .inr (.inl h)
          · exact .inr (.inr h)
          · exact .inl h
theorem insP_lt : ∀ (l : List (Int × Int)) (x : Int × Int), l.Pairwise (fun a b => cmpP a b < 0) → (insP l x).Pairwise (fun a b => cmpP a b < 0)
  | [], x, _ => by simp [insP]
  | z :: t, x, h => by
    obtain ⟨h1, h2⟩ := List.pairwise_cons.1 h
    unfold insP
    split
    · rename_i hc
      refine List.pairwise_cons.2 ⟨fun y hy => ?_, insP_lt t x h2⟩
      rcases (insP_mem t x y).1 hy with hy | rfl
      · exact h1 y hy
      · exact hc
    · split
      · exact h
      · rename_i hc hne
        have hxz : cmpP x z < 0 := cmpP_tri hc hne
        refine List.pairwise_cons.2 ⟨fun y hy => ?_, h⟩
        rcases List.mem_cons.1 hy with rfl | hy
        · exact hxz
        · exact cmpP_trans hxz (h1 y hy)
theorem uniP_union : ∀ (B A : List (Int × Int)), A.Pairwise (fun a b => cmpP a b < 0) → UnionP A B (uniP A B)
  | [], A, h => ⟨h, fun x => by simp [uniP]⟩
  | y :: B, A, h => by
    obtain ⟨h1, h2⟩ := uniP_union B (insP A y) (insP_lt A y h)
    refine ⟨h1, fun x => ?_⟩
    have := h2 x
    rw [insP_mem] at this
    show x ∈ uniP (insP A y) B ↔ _
    rw [this, List.mem_cons, or_assoc]
theorem strict_ext : ∀ {l m : List (Int × Int)}, l.Pairwise (fun a b => cmpP a b < 0) → m.Pairwise (fun a b => cmpP a b < 0) → (∀ x, x ∈ l ↔ x ∈ m) → l = m
  | [], [], _, _, _ => rfl
  | [], y :: m, _, _, h => absurd ((h y).2 (by simp)) (by simp)
  | x :: l, [], _, _, h => absurd ((h x).1 (by simp)) (by simp)
  | x :: l, y :: m, hl, hm, h => by
    obtain ⟨a1, a2⟩ := List.pairwise_cons.1 hl
    obtain ⟨b1, b2⟩ := List.pairwise_cons.1 hm
    have hxy : x = y := by
      rcases List.mem_cons.1 ((h x).1 (by simp)) with e | hx
      · exact e
      · rcases List.mem_cons.1 ((h y).2 (by simp)) with e | hy
        · exact e.symm
        · exact absurd (cmpP_trans (b1 x hx) (a1 y hy)) (cmpP_irr y)
    subst hxy
    have : l = m := strict_ext a2 b2 fun z => by
      have hz := h z
      simp only [List.mem_cons] at hz
      constructor
      · intro hzl
        rcases hz.1 (.inr hzl) with rfl | h'
        · exact absurd (a1 z hzl) (cmpP_irr z)
        · exact h'
      · intro hzm
        rcases hz.2 (.inr hzm) with rfl | h'
        · exact absurd (b1 z hzm) (cmpP_irr z)
        · exact h'
    rw [this]
theorem union_uni {A B m : List (Int × Int)} (hA : A.Pairwise (fun a b => cmpP a b < 0)) (h : UnionP A B m) : m = uniP A B := by
  obtain ⟨h1, h2⟩ := uniP_union B A hA
  exact strict_ext h.1 h1 fun x => by rw [h.2, h2]

def JoinR (o p : Prob) : Prob × Int := if chk o ≠ 0 then (⟨0, [], []⟩, chk o) else if chk p ≠ 0 then (⟨0, [], []⟩, chk p) else if o.N ≠ p.N then (⟨0, [], []⟩, 1) else (⟨o.N, uniP o.arcs p.arcs, uniP o.near p.near⟩, 0)

theorem alloc_two (X : World) (v0 v1 v2 v3 v4 v5 : Value) :
    ∃ Y, X.alloc (.cells #[v0, v1, v2, v3, v4, v5] 24) = Y ∧ Kept X Y ∧ (Y.cell? ⟨X.heap.size, 0, none⟩ = some v0 ∧ Y.cell? ⟨X.heap.size, 1, none⟩ = some v1 ∧ Y.cell? ⟨X.heap.size, 2, none⟩ = some v2) ∧
      (Y.cell? ⟨X.heap.size, 3, none⟩ = some v3 ∧ Y.cell? ⟨X.heap.size, 4, none⟩ = some v4 ∧ Y.cell? ⟨X.heap.size, 5, none⟩ = some v5) :=
  ⟨_, rfl, (Kept.refl X).alloc _, ⟨by simp [go_sem], by simp [go_sem], by simp [go_sem]⟩, ⟨by simp [go_sem], by simp [go_sem], by simp [go_sem]⟩⟩
theorem cell_set3 {X : World} {g k : Nat} {i : Nat} {u v0 v1 v2 : Value} (h : X.cell? ⟨g, i, none⟩ = some u) (hne : g ≠ k) : (((X.setCell ⟨k, 0, none⟩ v0).setCell ⟨k, 1, none⟩ v1).setCell ⟨k, 2, none⟩ v2).cell? ⟨g, i, none⟩ = some u :=
  cell_set_block (cell_set_block (cell_set_block h hne) hne) hne
theorem size_set3 {X : World} {g k : Nat} {v0 v1 v2 : Value} (h : g < X.heap.size) : g < (((X.setCell ⟨k, 0, none⟩ v0).setCell ⟨k, 1, none⟩ v1).setCell ⟨k, 2, none⟩ v2).heap.size := by simpa using h
theorem arcs_len {o : Prob} (hc : chk o = 0) : o.arcs.length ≤ 576 := by
  obtain ⟨h0, h24, hp, _⟩ := pair_of_chk hc
  have hsub : o.arcs ⊆ (List.range 24).flatMap (fun a => (List.range 24).map fun b => (((a : Nat) : Int), ((b : Nat) : Int))) := fun x hx => by
    have := hp x hx
    refine List.mem_flatMap.2 ⟨x.1.toNat, List.mem_range.2 (by omega), List.mem_map.2 ⟨x.2.toNat, List.mem_range.2 (by omega), ?_⟩⟩
    rw [Int.toNat_of_nonneg (by omega), Int.toNat_of_nonneg (by omega)]
  have := List.Nodup.length_le_of_subset (ris_nodup (chk_parts hc)) hsub
  have e : ((List.range 24).flatMap (fun a => (List.range 24).map fun b => (((a : Nat) : Int), ((b : Nat) : Int)))).length = 576 := by decide +kernel
  omega
theorem chk_near_ris {o : Prob} (hc : chk o = 0) : risB o.near = true := by
  unfold chk at hc
  split at hc
  · cases hc
  · split at hc
    · cases hc
    · rename_i h
      cases hr : risB o.near
      · exact absurd (.inr (.inr (.inr (.inr (.inl hr))))) h
      · rfl
set_option maxHeartbeats 8000000 in
theorem Join_any (o p : Prob) (ao bo ap bp : Option Addr) (ca cb da db : Nat) (w : World) (ho : IsProb w o ao bo) (hp : IsProb w p ap bp) (hna : ao = none → ca = 0) (hnb : bo = none → cb = 0) (hma : ap = none → da = 0) (hmb : bp = none → db = 0) :
    Calls Try.prog 70 #[probV o ao ca bo cb, probV p ap da bp db] w (ProbPost (JoinR o p).1 (JoinR o p).2 w) := by
  have HO := Lib.hid ho
  have HP := Lib.hid hp
  have HNA := Lib.hid hna
  have HNB := Lib.hid hnb
  have HMA := Lib.hid hma
  have HMB := Lib.hid hmb
  clear ho hp hna hnb hma hmb
  obtain ⟨R, hR⟩ : ∃ R, JoinR o p = R := ⟨_, rfl⟩
  rw [hR]
  have HR := Lib.hid hR
  clear hR
  go_enter Try.func70, Try.ntmps70
  go_wp2_with fail
  obtain ⟨w0, e0, hk0, hb0, e5⟩ := alloc_prob w o.N o.arcs o.near ao ca bo cb
  rw [e0]
  clear e0
  obtain ⟨w1, e1, hk1, hb1, e6⟩ := alloc_prob w0 p.N p.arcs p.near ap da bp db
  rw [e1]
  clear e1
  have hb2 := PBox.new w1 0 (.slice none 0 0) (.slice none 0 0)
  have hk2 : Kept w1 (w1.alloc (.cells #[.int .i64 0, .slice none 0 0, .slice none 0 0] 24)) := (Kept.refl _).alloc _
  have e7 : w1.heap.size + 1 = (w1.alloc (.cells #[.int .i64 0, .slice none 0 0, .slice none 0 0] 24)).heap.size := by simp
  generalize w1.alloc (.cells #[.int .i64 0, .slice none 0 0, .slice none 0 0] 24) = w2 at *
  obtain ⟨w3, e3, hk3, hca, hcb⟩ := alloc_two w2 (.int .i64 o.N) (.slice ao o.arcs.length ca) (.slice bo o.near.length cb) (.int .i64 p.N) (.slice ap p.arcs.length da) (.slice bp p.near.length db)
  rw [e3]
  clear e3
  obtain ⟨g0, hg0⟩ : ∃ g0, w.heap.size = g0 := ⟨_, rfl⟩
  obtain ⟨g1, hg1⟩ : ∃ g1, w.heap.size + 1 = g1 := ⟨_, rfl⟩
  obtain ⟨g2, hg2⟩ : ∃ g2, w.heap.size + 1 + 1 = g2 := ⟨_, rfl⟩
  obtain ⟨g3, hg3⟩ : ∃ g3, w.heap.size + 1 + 1 + 1 = g3 := ⟨_, rfl⟩
  rw [hg0] at hb0
  rw [show w0.heap.size = g1 by omega] at hb1
  rw [show w1.heap.size = g2 by omega] at hb2
  rw [show w2.heap.size = g3 by omega] at hca hcb
  rw [hg3, hg2, hg1, hg0]
  have HBO := Lib.hid (hb0.kept ((hk1.trans hk2).trans hk3))
  have HBP := Lib.hid (hb1.kept (hk2.trans hk3))
  have HB2 := Lib.hid (hb2.kept hk3)
  have HCA := Lib.hid hca
  have HCB := Lib.hid hcb
  have HK3 := Lib.hid (((hk0.trans hk1).trans hk2).trans hk3)
  have HG2 : Hid (w.heap.size ≤ g2) := Lib.hid (by omega)
  have HN0 : Hid (g0 ≠ g2) := Lib.hid (by omega)
  have HN1 : Hid (g1 ≠ g2) := Lib.hid (by omega)
  have HG3 : Hid (g2 < w3.heap.size) := Lib.hid (by have := hk3.size; omega)
  clear hk0 hb0 e5 hk1 hb1 e6 hk2 hb2 e7 hk3 hca hcb hg0 hg1 hg2 hg3
  go_loopw [14] (fun i wr => Kept w3 wr ∧ (i = .int .i64 0 ∨ (i = .int .i64 1 ∧ chk o = 0) ∨ (i = .int .i64 2 ∧ chk o = 0 ∧ chk p = 0))) (fun i _ => 2 - (intOf i).toNat)
  case atStart => exact ⟨Kept.refl _, .inl rfl⟩
  case round =>
    obtain ⟨hk, hrel⟩ := hrel
    have HKR := Lib.hid hk
    clear hk
    rcases hrel with rfl | ⟨rfl, hco⟩ | ⟨rfl, hco, hcp⟩
    · skip
      have q0 := HKR.out.cell HCA.out.1
      have q1 := HKR.out.cell HCA.out.2.1
      have q2 := HKR.out.cell HCA.out.2.2
      have qb := lt_of_cell q0
      have HKA := Lib.hid (HKR.out.alloc (.cells #[.int .i64 o.N, .slice ao o.arcs.length ca, .slice bo o.near.length cb] 24))
      have HCH := Lib.hid (Check_any o ao bo ca cb _ (HO.out.kept (HK3.out.trans HKA.out)))
      go_wp2_with fail
      refine HCH.out.mono ?_
      clear HCH
      rintro e w5 ⟨rfl, hk5⟩
      have HK5 := Lib.hid (HKA.out.trans hk5)
      clear hk5 q0 q1 q2 qb
      by_cases hc : chk o = 0
      · have b1 : (chk o != 0) = false := by simp [hc]
        have HX := Lib.hid hc
        clear hc
        go_wp2
        go_roundw
        case measure => simp [intOf]
        case rel => exact ⟨HK5.out, .inr (.inl ⟨by go_num, HX.out⟩)⟩
      · have b1 : (chk o != 0) = true := by simp [hc]
        have HX := Lib.hid hc
        clear hc
        obtain ⟨p0, p1, p2, pf⟩ := HB2.out.kept HK5.out
        have f0 := pf 0
        have f1 := pf 1
        have f2 := pf 2
        have pb := lt_of_cell p0
        clear pf
        have HP9 := Lib.hid ((HB2.out.kept HK5.out).set 0 (.slice none 0 0) (.slice none 0 0))
        go_wp2
        refine bodyPost_ret (results_cell_tmp rfl _ _ ⟨g2, 0, none⟩ rfl _ (load24 HP9.out.c0 HP9.out.c1 HP9.out.c2)) rfl ?_
        have hres : R = (⟨0, [], []⟩, chk o) := by
          rw [← HR.out]
          unfold JoinR
          rw [if_pos HX.out]
        rw [hres]
        exact ⟨none, 0, none, 0, rfl, OwnG.nil _ _ _ _ _, OwnG.nil _ _ _ _ _, (((HK3.out.trans HK5.out).setCell (p := ⟨g2, 0, none⟩) HG2.out _).setCell (p := ⟨g2, 1, none⟩) HG2.out _).setCell (p := ⟨g2, 2, none⟩) HG2.out _⟩
    · have HC1 := Lib.hid hco
      clear hco
      have q0 := HKR.out.cell HCB.out.1
      have q1 := HKR.out.cell HCB.out.2.1
      have q2 := HKR.out.cell HCB.out.2.2
      have qb := lt_of_cell q0
      have HKA := Lib.hid (HKR.out.alloc (.cells #[.int .i64 p.N, .slice ap p.arcs.length da, .slice bp p.near.length db] 24))
      have HCH := Lib.hid (Check_any p ap bp da db _ (HP.out.kept (HK3.out.trans HKA.out)))
      go_wp2_with fail
      refine HCH.out.mono ?_
      clear HCH
      rintro e w5 ⟨rfl, hk5⟩
      have HK5 := Lib.hid (HKA.out.trans hk5)
      clear hk5 q0 q1 q2 qb
      by_cases hc : chk p = 0
      · have b1 : (chk p != 0) = false := by simp [hc]
        have HX := Lib.hid hc
        clear hc
        go_wp2
        go_roundw
        case measure => simp [intOf]
        case rel => exact ⟨HK5.out, .inr (.inr ⟨by go_num, HC1.out, HX.out⟩)⟩
      · have b1 : (chk p != 0) = true := by simp [hc]
        have HX := Lib.hid hc
        clear hc
        obtain ⟨p0, p1, p2, pf⟩ := HB2.out.kept HK5.out
        have f0 := pf 0
        have f1 := pf 1
        have f2 := pf 2
        have pb := lt_of_cell p0
        clear pf
        have HP9 := Lib.hid ((HB2.out.kept HK5.out).set 0 (.slice none 0 0) (.slice none 0 0))
        go_wp2
        refine bodyPost_ret (results_cell_tmp rfl _ _ ⟨g2, 0, none⟩ rfl _ (load24 HP9.out.c0 HP9.out.c1 HP9.out.c2)) rfl ?_
        have hres : R = (⟨0, [], []⟩, chk p) := by
          rw [← HR.out]
          unfold JoinR
          rw [if_neg (by rw [HC1.out]; simp), if_pos HX.out]
        rw [hres]
        exact ⟨none, 0, none, 0, rfl, OwnG.nil _ _ _ _ _, OwnG.nil _ _ _ _ _, (((HK3.out.trans HK5.out).setCell (p := ⟨g2, 0, none⟩) HG2.out _).setCell (p := ⟨g2, 1, none⟩) HG2.out _).setCell (p := ⟨g2, 2, none⟩) HG2.out _⟩
    · have HC1 := Lib.hid hco
      have HC2 := Lib.hid hcp
      clear hco hcp
      obtain ⟨q0, q1, q2⟩ := HBO.out.kept HKR.out
      obtain ⟨r0, r1, r2⟩ := HBP.out.kept HKR.out
      have qb := lt_of_cell q0
      have rb := lt_of_cell r0
      by_cases hN : o.N = p.N
      · have b1 : (o.N != p.N) = false := by simp [hN]
        have HX := Lib.hid hN
        clear hN
        have HJ1 := Lib.hid fun (X : World) (hk : Kept w3 X) => JoinC_any o.arcs p.arcs ao ap ca da X (HO.out.arcs.kept (HK3.out.trans hk)) (HP.out.arcs.kept (HK3.out.trans hk)) HNA.out HMA.out (by have := arcs_len HC1.out; omega) (by have := arcs_len HC2.out; omega)
        have HJ2 := Lib.hid fun (X : World) (hk : Kept w3 X) => JoinC_any o.near p.near bo bp cb db X (HO.out.near.kept (HK3.out.trans hk)) (HP.out.near.kept (HK3.out.trans hk)) HNB.out HMB.out (by have := near_len HC1.out; omega) (by have := near_len HC2.out; omega)
        go_wp2_with fail
        have n0 := HN0.out
        have n1 := HN1.out
        go_region_held3 (fun X => X.cell? ⟨g0, 0, none⟩ = some (.int .i64 o.N) ∧ X.cell? ⟨g0, 1, none⟩ = some (.slice ao o.arcs.length ca) ∧ X.cell? ⟨g0, 2, none⟩ = some (.slice bo o.near.length cb) ∧ X.cell? ⟨g1, 0, none⟩ = some (.int .i64 p.N) ∧ X.cell? ⟨g1, 1, none⟩ = some (.slice ap p.arcs.length da) ∧ X.cell? ⟨g1, 2, none⟩ = some (.slice bp p.near.length db) ∧ g0 < X.heap.size ∧ g1 < X.heap.size)
          (first | exact ⟨q0, q1, q2, r0, r1, r2, qb, rb⟩ | exact ⟨z0, z1, z2, y0, y1, y2, zb, yb⟩ | exact ⟨Z0, Z1, Z2, Y0, Y1, Y2, Zb, Yb⟩ | exact ⟨cell_set3 Z0 n0, cell_set3 Z1 n0, cell_set3 Z2 n0, cell_set3 Y0 n1, cell_set3 Y1 n1, cell_set3 Y2 n1, size_set3 Zb, size_set3 Yb⟩)
          (first
            | (have hk7' := hk7; go_at_call 135; refine (HJ2.out _ (HKR.out.trans ((Kept.refl _).drew.trans hk7))).mono ?_; rintro e w8 ⟨vb, n, rfl, hvb, hn, hk8⟩; obtain ⟨ya, yc, hya, -, -⟩ := hvb.prs; subst hya; have Z0 := hk8.cell z0; have Z1 := hk8.cell z1; have Z2 := hk8.cell z2; have Y0 := hk8.cell y0; have Y1 := hk8.cell y1; have Y2 := hk8.cell y2; have hbx := (HB2.out.kept HKR.out).kept (((Kept.refl _).drew.trans hk7).trans hk8); obtain ⟨X0, X1, X2, Vf⟩ := hbx; have V0 := Vf 0; have V1 := Vf 1; have V2 := Vf 2; have Zb := lt_of_cell Z0; have Yb := lt_of_cell Y0; have Xb := lt_of_cell X0; clear Vf)
            | (go_at_call 135; refine (HJ1.out _ (HKR.out.trans (Kept.refl _).drew)).mono ?_; rintro e w7 ⟨va, m, rfl, hva, hm, hk7⟩; obtain ⟨xa, xc, hxa, -, -⟩ := hva.prs; subst hxa; have z0 := ((Kept.refl _).drew.trans hk7).cell q0; have z1 := ((Kept.refl _).drew.trans hk7).cell q1; have z2 := ((Kept.refl _).drew.trans hk7).cell q2; have y0 := ((Kept.refl _).drew.trans hk7).cell r0; have y1 := ((Kept.refl _).drew.trans hk7).cell r1; have y2 := ((Kept.refl _).drew.trans hk7).cell r2; have zb := lt_of_cell z0; have yb := lt_of_cell y0))
        rename_i hHeld
        clear hHeld
        have hk2 := (HKR.out.trans (Kept.refl _).drew).trans hk7
        have HKQ := Lib.hid (HK3.out.trans (hk2.trans hk8))
        have HPX := Lib.hid ((HB2.out.kept (hk2.trans hk8)).set o.N (.slice xa m.length xc) (.slice ya n.length yc))
        have hs1 : g2 < wr.drew.heap.size := Nat.lt_of_lt_of_le HG3.out HKR.out.size
        have hs2 : g2 < w7.heap.size := Nat.lt_of_lt_of_le hs1 hk7.size
        have hs3 : w.heap.size ≤ wr.drew.heap.size := Nat.le_trans HK3.out.size HKR.out.size
        have HS1 := Lib.hid hs1
        have HS2 := Lib.hid hs2
        have HS3 := Lib.hid hs3
        have HS4 := Lib.hid (Nat.le_trans hs3 hk7.size)
        have HVA := Lib.hid (hva.kept hk8)
        have HVB := Lib.hid hvb
        have HM := Lib.hid hm
        have HN := Lib.hid hn
        clear hk2 hs1 hs2 hs3 hva hvb hm hn hk7 hk8 z0 z1 z2 y0 y1 y2 zb yb Z0 Z1 Z2 Y0 Y1 Y2 Zb Yb X0 X1 X2 V0 V1 V2 Xb
        go_wp2
        refine bodyPost_ret (results_cell_tmp rfl _ _ ⟨g2, 0, none⟩ rfl _ (load24 HPX.out.c0 HPX.out.c1 HPX.out.c2)) rfl ?_
        have em := union_uni (risB_pw.1 (chk_parts HC1.out)) HM.out
        have en := union_uni (risB_pw.1 (chk_near_ris HC1.out)) HN.out
        have hres : R = (⟨o.N, m, n⟩, 0) := by
          rw [← HR.out, em, en]
          unfold JoinR
          rw [if_neg (by rw [HC1.out]; simp), if_neg (by rw [HC2.out]; simp), if_neg (by rw [HX.out]; simp)]
        rw [hres]
        refine ⟨xa, xc, ya, yc, rfl, ?_, ?_, (((HKQ.out.setCell (p := ⟨g2, 0, none⟩) HG2.out _).setCell (p := ⟨g2, 1, none⟩) HG2.out _).setCell (p := ⟨g2, 2, none⟩) HG2.out _)⟩
        · refine OwnG.base' (((HVA.out.setBelow (a := ⟨g2, 0, none⟩) ?_ _).setBelow (a := ⟨g2, 1, none⟩) ?_ _).setBelow (a := ⟨g2, 2, none⟩) ?_ _) HS3.out
          all_goals exact HS1.out
        · refine OwnG.base' (((HVB.out.setBelow (a := ⟨g2, 0, none⟩) ?_ _).setBelow (a := ⟨g2, 1, none⟩) ?_ _).setBelow (a := ⟨g2, 2, none⟩) ?_ _) HS4.out
          all_goals exact HS2.out
      · have b1 : (o.N != p.N) = true := by simp [hN]
        have HX := Lib.hid hN
        clear hN
        obtain ⟨p0, p1, p2, pf⟩ := HB2.out.kept HKR.out
        have f0 := pf 0
        have f1 := pf 1
        have f2 := pf 2
        have pb := lt_of_cell p0
        clear pf
        have HP9 := Lib.hid ((HB2.out.kept HKR.out).set 0 (.slice none 0 0) (.slice none 0 0))
        go_wp2
        refine bodyPost_ret (results_cell_tmp rfl _ _ ⟨g2, 0, none⟩ rfl _ (load24 HP9.out.c0 HP9.out.c1 HP9.out.c2)) rfl ?_
        have hres : R = (⟨0, [], []⟩, 1) := by
          rw [← HR.out]
          unfold JoinR
          rw [if_neg (by rw [HC1.out]; simp), if_neg (by rw [HC2.out]; simp), if_pos HX.out]
        rw [hres]
        exact ⟨none, 0, none, 0, rfl, OwnG.nil _ _ _ _ _, OwnG.nil _ _ _ _ _, (((HK3.out.trans HKR.out).setCell (p := ⟨g2, 0, none⟩) HG2.out _).setCell (p := ⟨g2, 1, none⟩) HG2.out _).setCell (p := ⟨g2, 2, none⟩) HG2.out _⟩
end Go.Proofs.Yteljjkghjbofnaa
