/- ref.Close. -/
import Derived.Test.YteljjkghjbofnaaTb
import Derived.Test.YteljjkghjbofnaaYd
import Derived.Deep.RegionLaw
import Derived.Deep.Cut
import Derived.Deep.DeepCutAuto
set_option maxRecDepth 100000
namespace Go.Proofs.Yteljjkghjbofnaa
open Go Go.Proofs Go.RowKit
attribute [local go_sem] Oper.semAt_some

/-- An empty slice of the call's own, as it is laid. -/
theorem OwnE (X : World) {base : Nat} (hb : base ≤ X.heap.size) : OwnG (X.alloc (.cells #[] 83)) base 83 2 pairC (.slice (some ⟨X.heap.size, 0, none⟩) 0 0) ([] : List (Int × Int)) :=
  ⟨by simp, .inr ⟨X.heap.size, 0, #[], rfl, hb, heap_alloc_new X _, Nat.le_refl _, Nat.zero_le _, rfl, rfl⟩⟩

abbrev Zp : Obj := .cells #[.int .i64 0, .slice none 0 0, .slice none 0 0] 24
theorem pboxA (X : World) : PBox (((X.alloc (.cells #[] 83)).alloc Zp).drew) (X.heap.size + 1) 0 (.slice none 0 0) (.slice none 0 0) := by
  have h := (PBox.new (X.alloc (.cells #[] 83)) 0 (.slice none 0 0) (.slice none 0 0)).kept (Kept.refl _).drew
  simpa using h
theorem pboxB (X : World) : PBox (((X.alloc Zp).alloc (.cells #[] 83)).drew) X.heap.size 0 (.slice none 0 0) (.slice none 0 0) :=
  (PBox.new X 0 (.slice none 0 0) (.slice none 0 0)).kept ((Kept.refl _).alloc _).drew
theorem hboxA (X : World) : (((X.alloc (.cells #[] 83)).alloc Zp).drew).heap[X.heap.size + 1]? = some Zp := by
  have h := heap_alloc_new (X.alloc (.cells #[] 83)) Zp
  have e : (X.alloc (.cells #[] 83)).heap.size = X.heap.size + 1 := by simp
  rw [e] at h
  exact h
theorem hboxB (X : World) : (((X.alloc Zp).alloc (.cells #[] 83)).drew).heap[X.heap.size]? = some Zp := by
  have h := heap_alloc_new X Zp
  have h2 := ((Kept.refl (X.alloc Zp)).alloc (.cells #[] 83)).below.block X.heap.size (by simp)
  exact h2.trans h
theorem OwnG.ne_box {X Y : World} {base bx : Nat} {v : Value} {l : List (Int × Int)} {row : Option Nat} (h : OwnG Y base 83 2 pairC v l) (hg : X.grownBy Y row) (hb : X.heap[bx]? = some Zp) (hne : some bx ≠ row) : v.ownBlock ≠ some bx := by
  intro e
  have h1 := (hg.block bx (Array.getElem?_eq_some_iff.1 hb).1 hne).trans hb
  rcases h.2 with ⟨rfl, _⟩ | ⟨g, cap, cur, rfl, _, hgg, _⟩
  · cases e
  · simp [Value.ownBlock] at e
    subst e
    rw [hgg] at h1
    cases h1
theorem neA (n : Nat) : some (n + 1) ≠ (Value.slice (some ⟨n, 0, none⟩) 0 0).ownBlock := by simp [Value.ownBlock]
theorem neB (X : World) (o : Obj) : some X.heap.size ≠ (Value.slice (some ⟨(X.alloc o).heap.size, 0, none⟩) 0 0).ownBlock := by simp [Value.ownBlock]

/-- What lay in X lies in Y, but in block bx. -/
structure FrX (X Y : World) (bx : Nat) : Prop where
  size : X.heap.size ≤ Y.heap.size
  cell : ∀ k o v, k ≠ bx → X.cell? ⟨k, o, none⟩ = some v → Y.cell? ⟨k, o, none⟩ = some v
  fz : ∀ k o, k < X.heap.size → k ≠ bx → Y.frozen? ⟨k, o, none⟩ = X.frozen? ⟨k, o, none⟩
theorem FrX.refl (X : World) (bx : Nat) : FrX X X bx := ⟨Nat.le_refl _, fun _ _ _ _ h => h, fun _ _ _ _ => rfl⟩
theorem FrX.kept {X Y Z : World} {bx : Nat} (h : FrX X Y bx) (hk : Kept Y Z) : FrX X Z bx :=
  ⟨Nat.le_trans h.size hk.size, fun k o v hne hc => hk.cell (h.cell k o v hne hc), fun k o hlt hne => (hk.cells.2 k o (Nat.lt_of_lt_of_le hlt h.size)).trans (h.fz k o hlt hne)⟩
theorem FrX.step {X Y Y1 Z : World} {bx : Nat} (h : FrX X Y bx) (hk : Kept Y Y1) {row : Option Nat} (hg : Y1.grownBy Z row) (hr : ∀ r, row = some r → X.heap.size ≤ r) (o' : Nat) (u : Value) : FrX X (Z.setCell ⟨bx, o', none⟩ u) bx := by
  have h1 := h.kept hk
  have hne : ∀ k, k < X.heap.size → some k ≠ row := fun k hk e => by have := hr k e.symm; omega
  refine ⟨?_, fun k o v hkb hc => ?_, fun k o hlt hkb => ?_⟩
  · have := hg.size
    have := h1.size
    simp only [World.setCell]
    simp
    omega
  · have hlt := lt_of_cell hc
    exact cell_set_block (hg.cell (a := ⟨k, o, none⟩) (h1.cell k o v hkb hc) (hne k hlt)) hkb
  · rw [World.frozen?_setCell]
    exact (World.frozen?_of_block (a := ⟨k, o, none⟩) (hg.block k (Nat.lt_of_lt_of_le hlt h1.size) (hne k hlt))).trans (h1.fz k o hlt hkb)
theorem PBox.fr {X Y : World} {bx b' : Nat} {N : Int} {va vb : Value} (h : PBox X b' N va vb) (hf : FrX X Y bx) (hne : b' ≠ bx) : PBox Y b' N va vb :=
  ⟨hf.cell _ _ _ hne h.c0, hf.cell _ _ _ hne h.c1, hf.cell _ _ _ hne h.c2, fun o => (hf.fz b' o (lt_of_cell h.c0) hne).trans (h.fz o)⟩

theorem step_copy {ops : Array Oper} {o : Oper} {a : Act} {w : World} {K : Act → World → Prop} {Q : Exit → Act → World → Prop} {E : Prop}
    (hg : o.guard = none) (s x : Operand) (hop : o.op = Op.call { callee := Callee.builtin Builtin.append, args := #[s, x], argTypes := #[22, 22] })
    (W0 : World) (v : Value) (hown : OwnG w W0.heap.size 83 2 pairC v ([] : List (Int × Int))) (hs : a.eval s = v) (near : List (Int × Int)) (bo : Option Addr) (c : Nat) (hx : a.eval x = .slice bo near.length c)
    (hk : Kept W0 w) (hp : Pairs W0 bo near) (hnil : bo = none → c = 0) (hlen : near.length < 1099511627776)
    (hK : ∀ v' w', OwnG w' W0.heap.size 83 2 pairC v' near → Kept W0 w' → w.grownBy w' v.ownBlock → K (a.put o.dst v') w') :
    if Region.wanted o (yielded ops a.tmps) = true then Oper.wp Try.prog o a w K Q else E := by
  have hw : Region.wanted o (yielded ops a.tmps) = true := by simp [Region.wanted, hg]
  rw [if_pos hw]
  obtain ⟨i0, hi, hz0, hz1, hz2⟩ := info_parts info83
  cases bo with
  | some ad =>
    obtain ⟨v', w', hrun, r1, r2, _⟩ := run_append_own (P := Try.prog) (w := w) W0.heap.size 22 o.type 83 i0 _ 2 16 Try.underlying22 hi hz0 hz1 hz2 rfl (by decide) v 0 _ hown ad near.length c (near.flatMap pairC) (flatMap_len pairC_len near) (pairs_newsA (hp.kept hk)) (pairs_one near) (by unfold maxLen; omega) (by omega) hk.size
    unfold Oper.wp
    simp [execOp, hop, resolve, invoke, builtin, hs, hx, hrun, Result.andThen]
    refine hK v' w' ?_ (hk.grown r2 (fun r e => (OwnG.lt hown r e).1)) r2
    have h := r1
    unfold OwnG
    rw [Nat.zero_add] at h
    simpa using h
  | none =>
    obtain rfl := hnil rfl
    have hnn : near = [] := by
      cases near with
      | nil => rfl
      | cons y t => obtain ⟨b, off, e, _⟩ := hp 0 (by simp); cases e
    subst hnn
    have hrun := run_append_owned_none (P := Try.prog) w W0.heap.size 22 o.type 83 i0 2 Try.underlying22 hi v 0 _ hown
    unfold Oper.wp
    simp [execOp, hop, resolve, invoke, builtin, hs, hx, hrun, Result.andThen]
    exact hK v w hown hk ⟨rfl, rfl, rfl, Nat.le_refl _, fun _ _ _ => rfl⟩

set_option maxHeartbeats 4000000 in
theorem RClose_any (o : Prob) (ao bo : Option Addr) (ca cb : Nat) (w : World) (ho : IsProb w o ao bo) (hlen : o.near.length < 1099511627776) (hnil : bo = none → cb = 0) :
    Calls Try.prog 56 #[probV o ao ca bo cb] w (ProbPost (CloseR o).1 (CloseR o).2 w) := by
  have HO := Lib.hid ho
  have HLEN := Lib.hid hlen
  have HNIL := Lib.hid hnil
  clear ho hlen hnil
  obtain ⟨P, hP⟩ : ∃ P, (CloseR o).1 = P := ⟨_, rfl⟩
  obtain ⟨er, her⟩ : ∃ er, (CloseR o).2 = er := ⟨_, rfl⟩
  rw [hP, her]
  have HPP := Lib.hid hP
  have HER := Lib.hid her
  clear hP her
  go_enter Try.func56, Try.ntmps56
  go_wp2_with fail
  obtain ⟨w0, e0, hk0, hb0, e5⟩ := alloc_prob w o.N o.arcs o.near ao ca bo cb
  rw [e0]
  clear e0
  have HB2 := Lib.hid (PBox.new w0 0 (.slice none 0 0) (.slice none 0 0))
  have HS0 : Hid (w.heap.size ≤ w0.heap.size) := Lib.hid hk0.size
  have HK1 := Lib.hid (hk0.alloc (.cells #[.int .i64 0, .slice none 0 0, .slice none 0 0] 24))
  have hb1 := hb0.kept ((Kept.refl _).alloc (.cells #[.int .i64 0, .slice none 0 0, .slice none 0 0] 24))
  clear hk0 hb0
  generalize w0.alloc (.cells #[.int .i64 0, .slice none 0 0, .slice none 0 0] 24) = w1 at *
  obtain ⟨g2, hg2⟩ : ∃ g2, w.heap.size + 1 = g2 := ⟨_, rfl⟩
  rw [← e5, hg2] at HB2 HS0
  rw [hg2]
  have HG2 := Lib.hid hg2
  clear hg2 e5
  have HB1 := Lib.hid hb1
  clear hb1
  refine (RCheck_any o ao bo ca cb w1 (HO.out.kept HK1.out)).mono ?_
  rintro e w2 ⟨rfl, hk2⟩
  have HK2 := Lib.hid (HK1.out.trans hk2)
  have HBX := Lib.hid (HB1.out.kept hk2)
  have HP2 := Lib.hid (HB2.out.kept hk2)
  clear hk2 HB1 HB2
  by_cases hc : chk o = 0
  · have HC := Lib.hid hc
    have HN := Lib.hid (webOf_n hc)
    have HNN := Lib.hid (webOf_nI hc)
    have HX : Hid (closeP o = P ∧ 0 = er) := Lib.hid (by rw [← HPP.out, ← HER.out]; unfold CloseR; rw [if_pos hc]; exact ⟨rfl, rfl⟩)
    rw [hc]
    clear hc
    go_upto_region 4 with fail
    obtain ⟨q0, q1, q2⟩ := HBX.out
    simp only [] at q0 q1 q2
    have qb := lt_of_cell q0
    have HS2 : Hid (g2 < w2.heap.size) := Lib.hid (lt_of_cell HP2.out.c0)
    go_cut [5] (fun s5 wx => ∃ (bx : Nat) (vb : Value), s5 = .pointer (some ⟨bx, 0, none⟩) ∧ w2.heap.size ≤ bx ∧ Kept w2 wx ∧ PBox wx bx o.N (.slice none 0 0) vb ∧ OwnG wx w2.heap.size 83 2 pairC vb o.near ∧ vb.ownBlock ≠ some bx)
    case first =>
      go_region_law (refine step_copy rfl (.tmp 17) (.tmp 19) rfl w2 _ (by first | exact OwnE w2 (Nat.le_refl _) | exact (OwnE w2 (Nat.le_refl _)).kept (((Kept.refl _).alloc _).drew) | exact (OwnE (w2.alloc _) (by simp)).kept ((Kept.refl _).drew) | exact OwnE (w2.alloc _) (by simp)) (by simp [Act.eval]) o.near bo cb (by simp [Act.eval]) (by first | exact ((Kept.refl _).alloc _).drew | exact (((Kept.refl _).alloc _).alloc _).drew) (HO.out.kept HK2.out).near HNIL.out HLEN.out ?_; intro v' w3 hown3 hk3 hg3; obtain ⟨va, vc, rfl, -, -⟩ := hown3.prs; have n1 := (HBX.out.kept hk3).c0; have n2 := lt_of_cell n1; (first | (have hbx : PBox w3 (w2.heap.size + 1) 0 (.slice none 0 0) (.slice none 0 0) := PBox.grownNe (pboxA w2) hg3 (neA _); obtain ⟨x0, x1, x2, xf⟩ := hbx; have y0 := xf 0; have y1 := xf 1; have y2 := xf 2; have y3 := lt_of_cell x0) | (have hbx : PBox w3 w2.heap.size 0 (.slice none 0 0) (.slice none 0 0) := PBox.grownNe (pboxB w2) hg3 (neB _ _); obtain ⟨x0, x1, x2, xf⟩ := hbx; have y0 := xf 0; have y1 := xf 1; have y2 := xf 2; have y3 := lt_of_cell x0) | skip))
      all_goals
        go_wp2_with fail
        go_meet
        first
          | exact ⟨w3.heap.size, _, rfl, hk3.size, hk3.alloc _, PBox.new w3 _ _ _, OwnG.kept hown3 ((Kept.refl _).alloc _), fun e => absurd (OwnG.lt hown3 _ e).2 (Nat.lt_irrefl _)⟩
          | exact ⟨w2.heap.size + 1, _, rfl, Nat.le_succ _, ((hk3.setCell (p := ⟨w2.heap.size + 1, 0, none⟩) (Nat.le_succ _) _).setCell (p := ⟨w2.heap.size + 1, 1, none⟩) (Nat.le_succ _) _).setCell (p := ⟨w2.heap.size + 1, 2, none⟩) (Nat.le_succ _) _, PBox.set ⟨x0, x1, x2, xf⟩ _ _ _, ((OwnG.setNe hown3 (a := ⟨w2.heap.size + 1, 0, none⟩) (OwnG.ne_box hown3 hg3 (hboxA _) (neA _)) _).setNe (a := ⟨w2.heap.size + 1, 1, none⟩) (OwnG.ne_box hown3 hg3 (hboxA _) (neA _)) _).setNe (a := ⟨w2.heap.size + 1, 2, none⟩) (OwnG.ne_box hown3 hg3 (hboxA _) (neA _)) _, OwnG.ne_box hown3 hg3 (hboxA _) (neA _)⟩
          | exact ⟨w2.heap.size, _, rfl, Nat.le_refl _, ((hk3.setCell (p := ⟨w2.heap.size, 0, none⟩) (Nat.le_refl _) _).setCell (p := ⟨w2.heap.size, 1, none⟩) (Nat.le_refl _) _).setCell (p := ⟨w2.heap.size, 2, none⟩) (Nat.le_refl _) _, PBox.set ⟨x0, x1, x2, xf⟩ _ _ _, ((OwnG.setNe hown3 (a := ⟨w2.heap.size, 0, none⟩) (OwnG.ne_box hown3 hg3 (hboxB _) (neB _ _)) _).setNe (a := ⟨w2.heap.size, 1, none⟩) (OwnG.ne_box hown3 hg3 (hboxB _) (neB _ _)) _).setNe (a := ⟨w2.heap.size, 2, none⟩) (OwnG.ne_box hown3 hg3 (hboxB _) (neB _ _)) _, OwnG.ne_box hown3 hg3 (hboxB _) (neB _ _)⟩
    case rest =>
      clear q0 q1 q2 qb
      obtain ⟨bx, vb, rfl, hbx, hk, hpb, hov, hob⟩ := hcut
      have HBXL := Lib.hid hbx
      have HK3 := Lib.hid (HK2.out.trans hk)
      have HB3 := Lib.hid (HBX.out.kept hk)
      have HP3 := Lib.hid (HP2.out.kept hk)
      have HC3 := Lib.hid hpb
      have HOV3 := Lib.hid hov
      have HOB := Lib.hid hob
      clear hbx hk hpb hov hob HBX HP2
      obtain ⟨q0, q1, q2⟩ := HB3.out
      have qb := lt_of_cell q0
      go_wp2_with fail
      clear q0 q1 q2 qb
      refine (Chained_any o ao bo ca cb wc (HO.out.kept HK3.out) HC.out).mono ?_
      rintro e w5 ⟨t, g, rfl, hm, hk5⟩
      have HM := Lib.hid hm
      have HK5 := Lib.hid (HK3.out.trans hk5)
      have HB5 := Lib.hid (HB3.out.kept hk5)
      have HP5 := Lib.hid (HP3.out.kept hk5)
      have HC5 := Lib.hid (HC3.out.kept hk5)
      have HOV5 := Lib.hid (HOV3.out.kept hk5)
      have HBL : Hid (bx < wc.heap.size) := Lib.hid (lt_of_cell HC3.out.c0)
      have HSZ5 : Hid (wc.heap.size ≤ w5.heap.size) := Lib.hid hk5.size
      have HVL : Hid (∀ j, vb.ownBlock = some j → j < w5.heap.size) := Lib.hid fun j e => (HOV5.out.lt j e).2
      clear hm hk5 HB3 HP3 HC3 HOV3 HK3
      have HT : Hid (t ≠ bx ∧ ∀ a, a < (webOf o).n → g a ≠ bx) := Lib.hid ⟨by have := HM.out.tb; have := HBL.out; omega, fun a ha => by have := (HM.out.gb a ha).1; have := HBL.out; omega⟩
      have HROW : Hid (∀ X, FrX w5 X bx → ∀ a, a < (webOf o).n → X.cell? ⟨t, a, none⟩ = some (.slice (some ⟨g a, 0, none⟩) (webOf o).n (webOf o).n)) := Lib.hid fun X hf a ha => hf.cell _ _ _ HT.out.1 (HM.out.row a ha)
      have HVAL : Hid (∀ X, FrX w5 X bx → ∀ a b, a < (webOf o).n → b < (webOf o).n → X.cell? ⟨g a, b, none⟩ = some (.bool (closeW (webOf o) a b))) := Lib.hid fun X hf a b ha hb => hf.cell _ _ _ (HT.out.2 a ha) (by
        have := HM.out.val a b ha hb
        rw [chM_reach HC.out ha] at this
        exact this)
      have HBX0 : Hid (∀ X, FrX w5 X bx → X.cell? ⟨w.heap.size, 0, none⟩ = some (.int .i64 o.N)) := Lib.hid fun X hf => hf.cell _ _ _ (by have := HG2.out; have := HS2.out; have := HBXL.out; omega) HB5.out.c0
      have HXX : Hid ((⟨o.N, keptK (closeW (webOf o)) (webOf o).n (webOf o).n, o.near⟩ : Prob) = P ∧ 0 = er) := HX
      have HNWI := HNN.out
      have hn24 := HN.out
      clear HX HC HM HB5
      generalize closeW (webOf o) = want at *
      generalize (webOf o).n = n at *
      have HNI := Lib.hid HNWI
      clear HNWI
      go_wp2
      go_loopw [7] (fun i wr => ∃ (a : Nat) (va : Value), a ≤ n ∧ i = .int .i64 a ∧ Kept w wr ∧ FrX w5 wr bx ∧ PBox wr bx o.N va vb ∧ OwnG wr w2.heap.size 83 2 pairC vb o.near ∧ OwnG wr w5.heap.size 83 2 pairC va (keptK want n a)) (fun i _ => n - (intOf i).toNat)
      case atStart => exact ⟨0, _, Nat.zero_le _, rfl, HK5.out, FrX.refl _ _, HC5.out, HOV5.out, OwnG.nil _ _ _ _ _⟩
      case round =>
        obtain ⟨a, va, ha, rfl, hk, hfr, hbc, hov, hoa⟩ := hrel
        have HKC := Lib.hid hk
        have HFR := Lib.hid hfr
        have HBC := Lib.hid hbc
        have HOV := Lib.hid hov
        have HOA := Lib.hid hoa
        have q0 := HBX0.out _ hfr
        clear hk hfr hbc hov hoa
        by_cases halt : a < n
        · have hai : decide ((a : Int) < o.N) = true := decide_eq_true (by have := HNI.out; omega)
          have HAL := Lib.hid halt
          go_wp2
          clear q0 hai
          go_loopw [8] (fun i wr => ∃ (k : Nat) (va : Value), k ≤ n ∧ i = .int .i64 k ∧ Kept w wr ∧ FrX w5 wr bx ∧ PBox wr bx o.N va vb ∧ OwnG wr w2.heap.size 83 2 pairC vb o.near ∧ OwnG wr w5.heap.size 83 2 pairC va (keptK want n a ++ rowK want a k)) (fun i _ => n - (intOf i).toNat)
          case atStart => exact ⟨0, va, Nat.zero_le _, rfl, HKC.out, HFR.out, HBC.out, HOV.out, by simp only [rowK, List.range_zero, List.filter_nil, List.map_nil, List.append_nil]; exact HOA.out⟩
          case round =>
            clear HKC HFR HBC HOV HOA va
            obtain ⟨k, va, hk2, rfl, hk, hfr, hbc, hov, hoa⟩ := hrel
            have HKC := Lib.hid hk
            have HFR := Lib.hid hfr
            have HBC := Lib.hid hbc
            have HOV := Lib.hid hov
            have HOA := Lib.hid hoa
            have q0 := HBX0.out _ hfr
            by_cases hklt : k < n
            · have hki : decide ((k : Int) < o.N) = true := decide_eq_true (by have := HNI.out; omega)
              have HKL := Lib.hid hklt
              have r0 := HROW.out _ hfr a halt
              have v0 := HVAL.out _ hfr a k halt hklt
              clear hk hfr hbc hov hoa
              by_cases hak : a = k
              · subst hak
                have hne : ((a : Int) != (a : Int)) = false := by simp
                have HRW : Hid (rowK want a (a + 1) = rowK want a a) := Lib.hid (rowK_no (.inl rfl))
                go_wp2
                go_roundw
                case measure => simp [intOf] <;> omega
                case rel => exact ⟨a + 1, va, by omega, by go_num, HKC.out, HFR.out, HBC.out, HOV.out, by rw [HRW.out]; exact HOA.out⟩
              · have hne : ((a : Int) != (k : Int)) = true := by simp; omega
                have HAK := Lib.hid hak
                clear hak
                cases hwt : want a k
                · have HRW : Hid (rowK want a (k + 1) = rowK want a k) := Lib.hid (rowK_no (.inr hwt))
                  rw [hwt] at v0
                  clear hwt
                  go_wp2
                  go_roundw
                  case measure => simp [intOf] <;> omega
                  case rel => exact ⟨k + 1, va, by omega, by go_num, HKC.out, HFR.out, HBC.out, HOV.out, by rw [HRW.out]; exact HOA.out⟩
                · have HRW : Hid (rowK want a (k + 1) = rowK want a k ++ [((a : Int), (k : Int))]) := Lib.hid (rowK_yes HAK.out hwt)
                  rw [hwt] at v0
                  obtain ⟨p0, p1, p2, pf⟩ := HBC.out
                  have f1 := pf 1
                  have pb := lt_of_cell p0
                  have HLN : Hid ((keptK want n a ++ rowK want a k).length < 10000) := Lib.hid (by
                    have h1 := keptK_len want n a
                    have h2 := rowK_len want a k
                    have h3 : a * n ≤ 24 * 24 := Nat.mul_le_mul (by have := HAL.out; omega) hn24
                    rw [List.length_append]
                    have := HKL.out
                    omega)
                  obtain ⟨pre, hpre⟩ : ∃ pre, keptK want n a ++ rowK want a k = pre := ⟨_, rfl⟩
                  rw [hpre] at HOA HLN
                  have HPRE := Lib.hid hpre
                  clear hpre hwt pf
                  have hHA : Kept wr (wr.alloc (.cells #[.int .i64 (a : Int), .int .i64 (k : Int)] 83)) := (Kept.refl _).alloc _
                  have HHA := Lib.hid hHA
                  clear hHA
                  go_wp2_with (at_builtin; refine append_g _ rfl _ _ 22 rfl w5.heap.size 83 2 16 _ pairC pairC_len pairC_one Try.underlying22 info83 rfl (by decide) (by decide) va pre rfl (HOA.out.kept HHA.out) wr.heap.size 1 [((a : Int), (k : Int))] rfl (pair_newA wr ((a : Int), (k : Int))) (by have := HLN.out; simp only [List.length_cons, List.length_nil]; omega) (by have := HFR.out.size; simp; omega) ?_; intro v' w8 hown4 hg4 _; obtain ⟨xa, xc, rfl, -, -⟩ := hown4.prs; have HO4 := Lib.hid hown4; have HG4 := Lib.hid hg4; have HB4 : Hid (PBox w8 bx o.N va vb) := Lib.hid ((HBC.out.kept HHA.out).grownNe hg4 (fun e => by have := (HOA.out.lt bx e.symm).1; have := HBL.out; have := HSZ5.out; omega)); clear p0 p1 p2 f1 pb hown4 hg4; obtain ⟨p0, p1, p2, pf⟩ := HB4.out; have f1 := pf 1; have pb := lt_of_cell p0; clear pf)
                  go_roundw
                  case measure => have := HKL.out; simp [intOf] <;> omega
                  case rel =>
                    have hne6 : ∀ j, va.ownBlock = some j → w5.heap.size ≤ j := fun j e => (HOA.out.lt j e).1
                    have hbl := HBL.out
                    have hsz := HSZ5.out
                    have hws : w.heap.size ≤ bx := by have := HG2.out; have := HS2.out; have := HBXL.out; omega
                    have hov := (HOV.out.kept HHA.out)
                    have hvl := HVL.out
                    have hk5 := HK5.out.size
                    refine ⟨k + 1, .slice xa (pre.length + 1) xc, HKL.out, by go_num, ?_, ?_, ?_, ?_, ?_⟩
                    · exact ((HKC.out.trans HHA.out).grown HG4.out (fun r e => by have := hne6 r e; omega)).setCell (p := ⟨bx, 1, none⟩) (by show _ ≤ bx; omega) _
                    · exact HFR.out.step HHA.out HG4.out (fun r e => hne6 r e) _ _
                    · exact HB4.out.set1 _
                    · exact (hov.grownNe HG4.out (fun j e e2 => by have := hne6 j (by rw [← e2]); have := hvl j e; omega)).setNe HOB.out _
                    · have h4 := HO4.out
                      simp only [List.length_append, List.length_cons, List.length_nil, Nat.zero_add] at h4
                      rw [HRW.out, ← List.append_assoc, HPRE.out]
                      exact h4.setBelow (by show bx < _; omega) _
            · have hki : decide ((k : Int) < o.N) = false := decide_eq_false (by have := HNI.out; omega)
              obtain rfl : k = n := by omega
              have HKS : Hid (keptK want k (a + 1) = keptK want k a ++ rowK want a k) := Lib.hid (keptK_succ _ _ _)
              clear hklt hk2 hk hfr hbc hov hoa
              go_wp2
              go_roundw
              case measure => have := HAL.out; simp [intOf] <;> omega
              case rel => exact ⟨a + 1, va, HAL.out, by go_num, HKC.out, HFR.out, HBC.out, HOV.out, by rw [HKS.out]; exact HOA.out⟩
        · have hai : decide ((a : Int) < o.N) = false := decide_eq_false (by have := HNI.out; omega)
          obtain rfl : a = n := by omega
          clear halt ha
          have HP9 := Lib.hid (HP5.out.fr HFR.out (by have := HS2.out; have := HBXL.out; omega))
          obtain ⟨p0, p1, p2, pf⟩ := HBC.out
          have pb := lt_of_cell p0
          obtain ⟨s0, s1, s2, sf⟩ := HP9.out
          have f0 := sf 0
          have f1 := sf 1
          have f2 := sf 2
          have sb := lt_of_cell s0
          clear pf sf
          have hov := HOV.out
          have hoa := HOA.out
          obtain ⟨ya, yc, rfl, -, -⟩ := hov.prs
          obtain ⟨xa, xc, rfl, -, -⟩ := hoa.prs
          have HV := Lib.hid hov
          have HA := Lib.hid hoa
          clear hov hoa
          have HB9 := Lib.hid (HP9.out.set o.N (.slice xa (keptK want a a).length xc) (.slice ya o.near.length yc))
          go_wp2
          refine bodyPost_ret (results_cell_tmp rfl _ _ ⟨g2, 0, none⟩ rfl _ (load24 HB9.out.c0 HB9.out.c1 HB9.out.c2)) rfl ?_
          have hs0 := HK2.out.size
          have hs2 := HS2.out
          have hs5 : w2.heap.size ≤ w5.heap.size := by have := HSZ5.out; have := HBL.out; have := HBXL.out; omega
          rw [← HXX.out.1, ← HXX.out.2]
          refine ⟨xa, xc, ya, yc, rfl, ?_, ?_, ?_⟩
          · refine OwnG.base' (((HA.out.setBelow (a := ⟨g2, 0, none⟩) ?_ _).setBelow (a := ⟨g2, 1, none⟩) ?_ _).setBelow (a := ⟨g2, 2, none⟩) ?_ _) (Nat.le_trans hs0 hs5)
            all_goals (show g2 < _; omega)
          · refine OwnG.base' (((HV.out.setBelow (a := ⟨g2, 0, none⟩) ?_ _).setBelow (a := ⟨g2, 1, none⟩) ?_ _).setBelow (a := ⟨g2, 2, none⟩) ?_ _) hs0
            all_goals (show g2 < _; omega)
          · refine ((HKC.out.setCell (p := ⟨g2, 0, none⟩) ?_ _).setCell (p := ⟨g2, 1, none⟩) ?_ _).setCell (p := ⟨g2, 2, none⟩) ?_ _
            all_goals exact HS0.out
  · have HX : Hid ((⟨0, [], []⟩ : Prob) = P ∧ chk o = er) := Lib.hid (by rw [← HPP.out, ← HER.out]; unfold CloseR; rw [if_neg hc]; exact ⟨rfl, rfl⟩)
    have hb : (chk o != 0) = true := by simp [hc]
    clear hc
    have HP9 := Lib.hid (HP2.out.set 0 (.slice none 0 0) (.slice none 0 0))
    obtain ⟨p0, p1, p2, pf⟩ := HP2.out
    have f0 := pf 0
    have f1 := pf 1
    have f2 := pf 2
    have pb := lt_of_cell p0
    clear pf
    go_wp2
    refine bodyPost_ret (results_cell_tmp rfl _ _ ⟨g2, 0, none⟩ rfl _ (load24 HP9.out.c0 HP9.out.c1 HP9.out.c2)) rfl ?_
    rw [← HX.out.1, ← HX.out.2]
    refine ⟨none, 0, none, 0, rfl, OwnG.nil _ _ _ _ _, OwnG.nil _ _ _ _ _, ?_⟩
    exact ((HK2.out.setCell (p := ⟨g2, 0, none⟩) HS0.out _).setCell (p := ⟨g2, 1, none⟩) HS0.out _).setCell (p := ⟨g2, 2, none⟩) HS0.out _
end Go.Proofs.Yteljjkghjbofnaa
