/- OrderMemory. -/
import Derived.Test.YteljjkghjbofnaaKf
import Derived.Test.YteljjkghjbofnaaTe
import Derived.Test.YteljjkghjbofnaaTq
import Derived.Test.YteljjkghjbofnaaXh
import Derived.Test.YteljjkghjbofnaaTc
set_option maxRecDepth 100000
namespace Go.Proofs.Yteljjkghjbofnaa
open Go Go.Proofs Go.RowKit
attribute [local go_sem] Oper.semAt_some

theorem some_set {X : World} {g i b o : Nat} {v : Value} (h : ∃ u, X.cell? ⟨g, i, none⟩ = some u) : ∃ u, (X.setCell ⟨b, o, none⟩ v).cell? ⟨g, i, none⟩ = some u := by
  obtain ⟨u, h⟩ := h
  by_cases hg : g = b
  · subst hg
    by_cases hi : i = o
    · subst hi
      exact ⟨_, cell_set_same h⟩
    · exact ⟨_, cell_set_off h hi⟩
  · exact ⟨_, cell_set_block h hg⟩
/-- Cells of n pairs that may be written: not below base, not in tc. -/
def Wrt (X : World) (base tc : Nat) (ao : Option Addr) (n : Nat) : Prop :=
  ∀ i, i < n → ∃ g, ao = some ⟨g, 0, none⟩ ∧ base ≤ g ∧ g ≠ tc ∧ (∃ u, X.cell? ⟨g, i * 2, none⟩ = some u) ∧ (∃ u, X.cell? ⟨g, i * 2 + 1, none⟩ = some u) ∧ ∀ o, X.frozen? ⟨g, o, none⟩ = false
theorem Wrt.set {X : World} {base tc n b o : Nat} {ao : Option Addr} (h : Wrt X base tc ao n) (v : Value) : Wrt (X.setCell ⟨b, o, none⟩ v) base tc ao n := fun i hi => by
  obtain ⟨g, e, h1, h2, h3, h4, h5⟩ := h i hi
  exact ⟨g, e, h1, h2, some_set h3, some_set h4, fun o' => by rw [World.frozen?_setCell]; exact h5 o'⟩
theorem Wrt.kept {X Y : World} {base tc n : Nat} {ao : Option Addr} (h : Wrt X base tc ao n) (hk : Kept X Y) : Wrt Y base tc ao n := fun i hi => by
  obtain ⟨g, e, h1, h2, ⟨u, h3⟩, ⟨v, h4⟩, h5⟩ := h i hi
  exact ⟨g, e, h1, h2, ⟨u, hk.cell h3⟩, ⟨v, hk.cell h4⟩, fun o => (hk.cells.2 g o (lt_of_cell h3)).trans (h5 o)⟩
theorem OwnG.wrt {X : World} {base n c : Nat} {ao : Option Addr} {l : List (Int × Int)} (h : OwnG X base 83 2 pairC (.slice ao n c) l) : Wrt X base X.heap.size ao l.length := fun i hi => by
  rcases h.slice pairC_len with ⟨rfl, _⟩ | ⟨g, c', e, -, h1, h2, h3, h4⟩
  · cases hi
  · cases e
    exact ⟨g, rfl, h1, by omega, ⟨_, h4 i hi 0 _ rfl⟩, ⟨_, h4 i hi 1 _ rfl⟩, h3⟩
/-- Cells of n numbers that may be written. -/
def WrI (X : World) (base : Nat) (lo : Option Addr) (n : Nat) : Prop :=
  ∀ i, i < n → ∃ g off, lo = some ⟨g, off, none⟩ ∧ base ≤ g ∧ (∃ u, X.cell? ⟨g, off + i, none⟩ = some u) ∧ ∀ o, X.frozen? ⟨g, o, none⟩ = false
theorem WrI.set {X : World} {base n b o : Nat} {lo : Option Addr} (h : WrI X base lo n) (v : Value) : WrI (X.setCell ⟨b, o, none⟩ v) base lo n := fun i hi => by
  obtain ⟨g, off, e, h1, h3, h5⟩ := h i hi
  exact ⟨g, off, e, h1, some_set h3, fun o' => by rw [World.frozen?_setCell]; exact h5 o'⟩
theorem NewI.wri {w w' : World} {v : Value} {l : List Int} (h : NewI w w' v l) : ∃ ao c, v = .slice ao l.length c ∧ WrI w' w.heap.size ao l.length := by
  obtain ⟨ao, c, e, -, h1, h2⟩ := h
  refine ⟨ao, c, e, fun i hi => ?_⟩
  obtain ⟨B, off, e2, h3⟩ := h1 i hi
  obtain ⟨a1, -, -, a4⟩ := h2 _ e2
  exact ⟨B, off, e2, a1, ⟨_, h3⟩, a4⟩

/-- The problem, the list, and what was copied of them. -/
structure Mem (w X : World) (g : Nat) (o : Prob) (ao : Option Addr) (ca : Nat) (bo : Option Addr) (cb : Nat) (lo : Option Addr) (l : List Int) (aa na wa : Option Addr) : Prop where
  bag : Bag w X g o ao ca bo cb lo l
  a : Pairs X aa o.arcs
  n : Pairs X na o.near
  i : Ints X wa l
theorem Mem.kept {w X Y : World} {g : Nat} {o : Prob} {ao bo lo aa na wa : Option Addr} {ca cb : Nat} {l : List Int} (h : Mem w X g o ao ca bo cb lo l aa na wa) (hk : Kept X Y) : Mem w Y g o ao ca bo cb lo l aa na wa :=
  ⟨h.bag.kept hk, h.a.kept hk, h.n.kept hk, h.i.kept hk⟩
theorem closeR_len' (o : Prob) : (CloseR o).1.arcs.length ≤ 576 ∧ (CloseR o).1.near.length ≤ o.near.length := by
  unfold CloseR
  by_cases hc : chk o = 0
  · rw [if_pos hc]; exact ⟨prob_len hc _, Nat.le_refl _⟩
  · rw [if_neg hc]; exact ⟨by simp, by simp⟩
theorem joinR_len (o : Prob) : (JoinR o o).1.near.length ≤ 1152 := by
  by_cases h : (JoinR o o).2 = 0
  · obtain ⟨h1, h2, h3, h4⟩ := joinR_parts h
    rw [h4]
    have h5 : uniP o.near o.near = o.near := strict_ext (uniP_union _ _ (risB_pw.1 (chk_near_ris h1))).1 (risB_pw.1 (chk_near_ris h1)) fun x => by rw [(uniP_union _ _ (risB_pw.1 (chk_near_ris h1))).2]; simp
    rw [h5]
    have := near_len h1
    show o.near.length ≤ _
    omega
  · have : (JoinR o o).1 = ⟨0, [], []⟩ := by
      unfold JoinR at *
      by_cases h1 : chk o ≠ 0
      · rw [if_pos h1]
      · rw [if_neg h1, if_neg h1, if_neg (fun e => e rfl)] at h
        exact absurd rfl h
    rw [this]
    simp

theorem firstR_len (o : Prob) : (FirstR o).1.length ≤ 24 := by
  unfold FirstR
  by_cases h : errS o = 0
  · rw [if_pos h]
    obtain ⟨hc, -⟩ := errS_ok h
    have h1 := (orderedB_iff.1 (firstOf_ordered (webOf_n hc) (goes_webOf h))).1
    have h2 := webOf_n hc
    show (firstOf (webOf o)).length ≤ 24
    omega
  · rw [if_neg h]; simp
theorem daysR_len (o : Prob) (dry : Int) (l : List Int) : (DaysR o dry l).1.length ≤ 24 := by
  unfold DaysR
  by_cases h : datErr o dry l = 0
  · rw [if_pos h]
    have hc : chk o = 0 := by
      unfold datErr at h
      split at h
      · assumption
      · rename_i h1; exact absurd h h1
    have h2 := webOf_n hc
    have h3 : (daysOf (webOf o) dry l).length = (webOf o).n := daysPart_length _ _ _ _
    show (daysOf (webOf o) dry l).length ≤ 24
    omega
  · rw [if_neg h]; simp

set_option maxHeartbeats 4000000 in
theorem OrderMemory_any (o : Prob) (ao bo : Option Addr) (ca cb : Nat) (dry : Int) (l : List Int) (lo : Option Addr) (lc : Nat) (w : World) (hA : Pairs w ao o.arcs) (hB : Pairs w bo o.near) (hL : Ints w lo l) (hna : ao = none → ca = 0) (hnb : bo = none → cb = 0) (hnl : lo = none → lc = 0) (hlc : l.length ≤ lc) :
    Calls Try.prog 19 #[probV o ao ca bo cb, .int .i64 dry, .slice lo l.length lc] w (Gives (.bool true) w) := by
  have HO : Hid (slimB o = true → IsProb w o ao bo ∧ o.arcs.length ≤ 600 ∧ o.near.length ≤ 300) := Lib.hid fun h => by
    unfold slimB at h
    simp at h
    exact ⟨⟨hA, hB, by omega, by omega⟩, by omega, by omega⟩
  have HL := Lib.hid hL
  have HNA := Lib.hid hna
  have HNB := Lib.hid hnb
  have HNL := Lib.hid hnl
  clear hA hB hL hna hnb hnl
  go_enter Try.func19, Try.ntmps19
  go_wp2_with fail
  obtain ⟨w0, e0, hk0, hb0, -⟩ := alloc_prob w o.N o.arcs o.near ao ca bo cb
  rw [e0]
  clear e0
  have HK0 := Lib.hid hk0
  have HB0 := Lib.hid hb0
  clear hk0
  obtain ⟨q0, q1, q2⟩ := hb0
  have qb := lt_of_cell q0
  go_wp2_with fail
  clear q0 q1 q2 qb
  refine (slim_any o ao bo ca cb w0).mono ?_
  rintro e w1 ⟨rfl, hk⟩
  have HK1 := Lib.hid (HK0.out.trans hk)
  have HB1 := Lib.hid (HB0.out.kept hk)
  clear hk HK0 HB0
  cases hs : slimB o
  · clear hs
    go_wp2_with fail
    refine (alive_any w1).mono ?_
    rintro e w1z ⟨rfl, hk⟩
    have HKZ := Lib.hid (HK1.out.trans hk)
    clear hk
    go_wp2
    go_ret
    exact ⟨rfl, HKZ.out⟩
  obtain ⟨hp, hla, hlb⟩ := HO.out hs
  have HP := Lib.hid hp
  have HLA := Lib.hid hla
  have HLB := Lib.hid hlb
  clear hs HO hp hla hlb
  by_cases h24 : 24 < l.length
  · have hd : decide ((l.length : Int) > 24) = true := decide_eq_true (by omega)
    clear h24
    go_wp2_with fail
    refine (alive_any w1).mono ?_
    rintro e w1z ⟨rfl, hk⟩
    have HKZ := Lib.hid (HK1.out.trans hk)
    clear hk
    go_wp2
    go_ret
    exact ⟨rfl, HKZ.out⟩
  have hd : decide ((l.length : Int) > 24) = false := decide_eq_false (by omega)
  have H24 : Hid (l.length ≤ 24) := Lib.hid (by omega)
  clear h24
  obtain ⟨g0, hg0⟩ : ∃ g0, w.heap.size = g0 := ⟨_, rfl⟩
  have B1 : Hid (Bag w w1 g0 o ao ca bo cb lo l) := Lib.hid ⟨HP.out.kept HK1.out, by rw [← hg0]; exact HB1.out, HL.out.kept HK1.out, HK1.out⟩
  rw [hg0]
  clear hg0 HP HL HK1 HB1
  obtain ⟨q0, q1, q2⟩ := B1.out.b
  have qb := lt_of_cell q0
  go_wp2_with (first
    | (at_builtin; refine append_copy (w3.alloc (.cells #[] 3)) rfl _ _ rfl w3.heap.size (.slice (some ⟨w3.heap.size, 0, none⟩) 0 0) rfl (OwnEI w3 (Nat.le_refl _)) l lo lc rfl (B3.out.l.kept ((Kept.refl _).alloc _)) HNL.out (by have := H24.out; omega) (by simp) ?_; intro v4 w4 hown hg; have hk : Kept w3 w4 := ((Kept.refl w3).alloc _).grown hg (fun r e => by cases e; exact Nat.le_refl _); obtain ⟨wa, wc, hv, -, hpa⟩ := hown.slice; subst hv; have M4 : Hid (Mem w w4 g0 o ao ca bo cb lo l aa na wa) := Lib.hid ⟨B3.out.kept hk, A3.out.kept hk, N3.out.kept hk, hpa⟩; clear hown hg hk hpa q0 q1 q2 qb; obtain ⟨q0, q1, q2⟩ := M4.out.bag.b; have qb := lt_of_cell q0)
    | (at_builtin; refine append_prs (w2.alloc (.cells #[] 83)) rfl _ _ rfl w2.heap.size (.slice (some ⟨w2.heap.size, 0, none⟩) 0 0) [] rfl (OwnE w2 (Nat.le_refl _)) o.near bo cb rfl (B2.out.p.near.kept ((Kept.refl _).alloc _)) HNB.out (by have := HLB.out; simp; omega) (by simp) ?_; intro v3 w3 hown hg; have hk : Kept w2 w3 := ((Kept.refl w2).alloc _).grown hg (fun r e => by cases e; exact Nat.le_refl _); obtain ⟨na, nc, hv, hpa, -⟩ := hown.prs; simp only [List.nil_append] at hv hpa; subst hv; have B3 := Lib.hid (B2.out.kept hk); have A3 := Lib.hid (A2.out.kept hk); have N3 : Hid (Pairs w3 na o.near) := Lib.hid hpa; clear hown hg hk hpa q0 q1 q2 qb; obtain ⟨q0, q1, q2⟩ := B3.out.b; have qb := lt_of_cell q0)
    | (at_builtin; refine append_prs (w1.alloc (.cells #[] 83)) rfl _ _ rfl w1.heap.size (.slice (some ⟨w1.heap.size, 0, none⟩) 0 0) [] rfl (OwnE w1 (Nat.le_refl _)) o.arcs ao ca rfl (B1.out.p.arcs.kept ((Kept.refl _).alloc _)) HNA.out (by have := HLA.out; simp; omega) (by simp) ?_; intro v2 w2 hown hg; have hk : Kept w1 w2 := ((Kept.refl w1).alloc _).grown hg (fun r e => by cases e; exact Nat.le_refl _); obtain ⟨aa, ac, hv, hpa, -⟩ := hown.prs; simp only [List.nil_append] at hv hpa; subst hv; have B2 := Lib.hid (B1.out.kept hk); have A2 : Hid (Pairs w2 aa o.arcs) := Lib.hid hpa; clear hown hg hk hpa q0 q1 q2 qb; obtain ⟨q0, q1, q2⟩ := B2.out.b; have qb := lt_of_cell q0)
    | fail)
  clear hd q0 q1 q2 qb
  clear B1 B2 A2 B3 A3 N3
  obtain ⟨RC, hRC⟩ : ∃ R, CloseR o = R := ⟨_, rfl⟩
  have HRL := Lib.hid (closeR_len' o)
  have HRC := Lib.hid hRC
  clear hRC
  rw [HRC.out] at HRL
  obtain ⟨C, ec⟩ := RC
  simp only [] at HRL
  have HCL : Hid (C.arcs.length ≤ 576 ∧ C.near.length ≤ 300) := Lib.hid ⟨HRL.out.1, by have := HRL.out.2; have := HLB.out; omega⟩
  clear HRL
  have hF := Close_any o ao bo ca cb w4 M4.out.bag.p (by have := HLB.out; omega)
  rw [HRC.out] at hF
  refine hF.mono ?_
  clear hF
  rintro e w5 ⟨xa, xc, ya, yc, rfl, hoa, hob, hk⟩
  have HWA := Lib.hid hoa.wrt
  have HWB := Lib.hid hob.wrt
  have HK5 := Lib.hid hk
  clear hoa hob hk
  obtain ⟨w6, e6, hk6, hb6, -⟩ := alloc_prob w5 C.N C.arcs C.near xa xc ya yc
  obtain ⟨tc, htc⟩ : ∃ tc, w5.heap.size = tc := ⟨_, rfl⟩
  rw [htc] at hb6 HWA HWB
  have p0 := hb6.c0
  have p1 := hb6.c1
  have p2 := hb6.c2
  have pb := lt_of_cell p0
  have HBC : Hid (ProbBox w6 tc C xa xc ya yc) := Lib.hid hb6
  have HWA6 := Lib.hid (HWA.out.kept hk6)
  have HWB6 := Lib.hid (HWB.out.kept hk6)
  have HK6 := Lib.hid (HK5.out.trans hk6)
  clear hb6 hk6 HWA HWB HK5
  go_wp2_with fail
  clear e6 p0 p1 p2 pb
  go_loopw [12, 55] (fun _ i wr => ∃ k : Nat, k ≤ C.arcs.length ∧ i = .int .i64 k ∧ Kept w4 wr ∧ ProbBox wr tc C xa xc ya yc ∧ Wrt wr w4.heap.size tc xa C.arcs.length ∧ Wrt wr w4.heap.size tc ya C.near.length) (fun _ i _ => C.arcs.length - (intOf i).toNat)
  case atStart => exact ⟨0, Nat.zero_le _, rfl, HK6.out, HBC.out, HWA6.out, HWB6.out⟩
  case round =>
    obtain ⟨k, hk, rfl, hkr, hbr, hwr, hr0⟩ := hrel
    have HKR := Lib.hid hkr
    have HBR := Lib.hid hbr
    have HWR := Lib.hid hwr
    have HR0 := Lib.hid hr0
    clear hkr hbr hwr hr0
    obtain ⟨q0, q1, q2⟩ := HBR.out
    have qb := lt_of_cell q0
    by_cases hlt : k < C.arcs.length
    case pos =>
      obtain ⟨g, rfl, hg, hgt, ⟨u0, c0⟩, ⟨u1, c1⟩, fz⟩ := HWR.out k hlt
      have f0 := fz (k * 2)
      have f1 := fz (k * 2 + 1)
      have cb0 := lt_of_cell c0
      have hb := HCL.out.1
      have HG := Lib.hid hg
      have HGT := Lib.hid hgt
      have HLT := Lib.hid hlt
      clear hg hgt fz
      go_wp2
      go_roundw
      case measure => simp [intOf] <;> omega
      case rel => exact ⟨k + 1, HLT.out, by go_num, (HKR.out.setCell (p := ⟨g, k * 2, none⟩) HG.out _).setCell (p := ⟨g, k * 2 + 1, none⟩) HG.out _, (HBR.out.setNe HGT.out.symm).setNe HGT.out.symm, (HWR.out.set _).set _, (HR0.out.set _).set _⟩
    obtain rfl : k = C.arcs.length := by omega
    clear hk hlt
    have HKA := Lib.hid HKR.out
    have HBA := Lib.hid HBR.out
    have HYA := Lib.hid HR0.out
    clear HKR HBR HWR HR0 HK6 HBC HWA6 HWB6 htc
    obtain ⟨w7, hw⟩ : ∃ x, x = wr := ⟨_, rfl⟩
    subst hw
    go_wp2_with fail
    clear q0 q1 q2 qb
    go_loopw [13, 67] (fun _ i wr => ∃ k : Nat, k ≤ C.near.length ∧ i = .int .i64 k ∧ Kept w4 wr ∧ ProbBox wr tc C xa xc ya yc ∧ Wrt wr w4.heap.size tc ya C.near.length) (fun _ i _ => C.near.length - (intOf i).toNat)
    case atStart => exact ⟨0, Nat.zero_le _, rfl, HKA.out, HBA.out, HYA.out⟩
    case round =>
      obtain ⟨k, hk, rfl, hkr, hbr, hwr⟩ := hrel
      have HKR := Lib.hid hkr
      have HBR := Lib.hid hbr
      have HWR := Lib.hid hwr
      clear hkr hbr hwr
      obtain ⟨q0, q1, q2⟩ := HBR.out
      have qb := lt_of_cell q0
      by_cases hlt : k < C.near.length
      case pos =>
        obtain ⟨g, rfl, hg, hgt, ⟨u0, c0⟩, ⟨u1, c1⟩, fz⟩ := HWR.out k hlt
        have f0 := fz (k * 2)
        have f1 := fz (k * 2 + 1)
        have cb0 := lt_of_cell c0
        have hb := HCL.out.2
        have HG := Lib.hid hg
        have HGT := Lib.hid hgt
        have HLT := Lib.hid hlt
        clear hg hgt fz
        go_wp2
        go_roundw
        case measure => simp [intOf] <;> omega
        case rel => exact ⟨k + 1, HLT.out, by go_num, (HKR.out.setCell (p := ⟨g, k * 2, none⟩) HG.out _).setCell (p := ⟨g, k * 2 + 1, none⟩) HG.out _, (HBR.out.setNe HGT.out.symm).setNe HGT.out.symm, (HWR.out.set _).set _⟩
      obtain rfl : k = C.near.length := by omega
      clear hk hlt
      have M8 := Lib.hid (M4.out.kept HKR.out)
      clear q0 q1 q2 qb HKA HBA HYA HKR HBR HWR M4
      obtain ⟨w8, hw⟩ : ∃ x, x = wr := ⟨_, rfl⟩
      subst hw
      obtain ⟨q0, q1, q2⟩ := M8.out.bag.b
      have qb := lt_of_cell q0
      go_wp2_with fail
      clear q0 q1 q2 qb
      have hF := First_any o ao bo ca cb w8 M8.out.bag.p goes_webOf
      have HFL := Lib.hid (firstR_len o)
      generalize (FirstR o).1 = F at *
      generalize (FirstR o).2 = fe at *
      refine hF.mono ?_
      clear hF
      rintro e w9 ⟨v9, rfl, hnew, hk⟩
      obtain ⟨fo, fc, rfl, hwi⟩ := hnew.wri
      have HWI := Lib.hid hwi
      have HK9 := Lib.hid hk
      clear hnew hwi hk
      go_wp2_with fail
      go_loopw [16, 83] (fun _ i wr => ∃ k : Nat, k ≤ F.length ∧ i = .int .i64 k ∧ Kept w8 wr ∧ WrI wr w8.heap.size fo F.length) (fun _ i _ => F.length - (intOf i).toNat)
      case atStart => exact ⟨0, Nat.zero_le _, rfl, HK9.out, HWI.out⟩
      case round =>
        obtain ⟨k, hk, rfl, hkr, hwr⟩ := hrel
        have HKR := Lib.hid hkr
        have HWR := Lib.hid hwr
        clear hkr hwr
        by_cases hlt : k < F.length
        case pos =>
          obtain ⟨g, off, rfl, hg, ⟨u0, c0⟩, fz⟩ := HWR.out k hlt
          have f0 := fz (off + k)
          have cb0 := lt_of_cell c0
          have hb := HFL.out
          have HG := Lib.hid hg
          have HLT := Lib.hid hlt
          clear hg fz
          go_wp2
          go_roundw
          case measure => simp [intOf] <;> omega
          case rel => exact ⟨k + 1, HLT.out, by go_num, HKR.out.setCell (p := ⟨g, off + k, none⟩) HG.out _, HWR.out.set _⟩
        obtain rfl : k = F.length := by omega
        clear hk hlt
        have M10 := Lib.hid (M8.out.kept HKR.out)
        clear HWI HK9 HKR HWR HFL M8
        obtain ⟨w10, hw⟩ : ∃ x, x = wr := ⟨_, rfl⟩
        subst hw
        obtain ⟨q0, q1, q2⟩ := M10.out.bag.b
        have qb := lt_of_cell q0
        go_wp2_with fail
        clear q0 q1 q2 qb
        have hF := Days_any o ao bo ca cb dry l lo lc w10 M10.out.bag.p M10.out.bag.l (by have := H24.out; omega) hlc
        have HDL := Lib.hid (daysR_len o dry l)
        generalize (DaysR o dry l).1 = D at *
        generalize (DaysR o dry l).2 = de at *
        refine hF.mono ?_
        clear hF
        rintro e w11 ⟨v11, rfl, hnew, hk⟩
        obtain ⟨fo', fc', rfl, hwi⟩ := hnew.wri
        have HWI := Lib.hid hwi
        have HK11 := Lib.hid hk
        clear hnew hwi hk
        go_wp2_with fail
        go_loopw [19, 99] (fun _ i wr => ∃ k : Nat, k ≤ D.length ∧ i = .int .i64 k ∧ Kept w10 wr ∧ WrI wr w10.heap.size fo' D.length) (fun _ i _ => D.length - (intOf i).toNat)
        case atStart => exact ⟨0, Nat.zero_le _, rfl, HK11.out, HWI.out⟩
        case round =>
          obtain ⟨k, hk, rfl, hkr, hwr⟩ := hrel
          have HKR := Lib.hid hkr
          have HWR := Lib.hid hwr
          clear hkr hwr
          by_cases hlt : k < D.length
          case pos =>
            obtain ⟨g, off, rfl, hg, ⟨u0, c0⟩, fz⟩ := HWR.out k hlt
            have f0 := fz (off + k)
            have cb0 := lt_of_cell c0
            have hb := HDL.out
            have HG := Lib.hid hg
            have HLT := Lib.hid hlt
            clear hg fz
            go_wp2
            go_roundw
            case measure => simp [intOf] <;> omega
            case rel => exact ⟨k + 1, HLT.out, by go_num, HKR.out.setCell (p := ⟨g, off + k, none⟩) HG.out _, HWR.out.set _⟩
          obtain rfl : k = D.length := by omega
          clear hk hlt
          have M12 := Lib.hid (M10.out.kept HKR.out)
          clear HWI HK11 HKR HWR HDL M10
          obtain ⟨w12, hw⟩ : ∃ x, x = wr := ⟨_, rfl⟩
          subst hw
          obtain ⟨q0, q1, q2⟩ := M12.out.bag.b
          have qb := lt_of_cell q0
          go_wp2_with fail
          clear q0 q1 q2 qb
          have hF := Join_any o o ao bo ao bo ca cb ca cb w12 M12.out.bag.p M12.out.bag.p HNA.out HNB.out HNA.out HNB.out
          have HJL := Lib.hid (joinR_len o)
          generalize JoinR o o = RJ at *
          obtain ⟨J, ej⟩ := RJ
          simp only [] at hF HJL
          refine hF.mono ?_
          clear hF
          rintro e w13 ⟨ja, jc, jb, jd, rfl, -, hob, hk⟩
          have HWB := Lib.hid hob.wrt
          have HK13 := Lib.hid hk
          clear hob hk
          obtain ⟨w14, e14, hk14, hb14, -⟩ := alloc_prob w13 J.N J.arcs J.near ja jc jb jd
          obtain ⟨tj, htj⟩ : ∃ tj, w13.heap.size = tj := ⟨_, rfl⟩
          rw [htj] at hb14 HWB
          have p0 := hb14.c0
          have p1 := hb14.c1
          have p2 := hb14.c2
          have pb := lt_of_cell p0
          have HBJ : Hid (ProbBox w14 tj J ja jc jb jd) := Lib.hid hb14
          have HWB14 := Lib.hid (HWB.out.kept hk14)
          have HK14 := Lib.hid (HK13.out.trans hk14)
          clear hb14 hk14 HWB HK13
          go_wp2_with fail
          clear e14 p0 p1 p2 pb
          go_loopw [22, 115] (fun _ i wr => ∃ k : Nat, k ≤ J.near.length ∧ i = .int .i64 k ∧ Kept w12 wr ∧ ProbBox wr tj J ja jc jb jd ∧ Wrt wr w12.heap.size tj jb J.near.length) (fun _ i _ => J.near.length - (intOf i).toNat)
          case atStart => exact ⟨0, Nat.zero_le _, rfl, HK14.out, HBJ.out, HWB14.out⟩
          case round =>
            obtain ⟨k, hk, rfl, hkr, hbr, hwr⟩ := hrel
            have HKR := Lib.hid hkr
            have HBR := Lib.hid hbr
            have HWR := Lib.hid hwr
            clear hkr hbr hwr
            obtain ⟨q0, q1, q2⟩ := HBR.out
            have qb := lt_of_cell q0
            by_cases hlt : k < J.near.length
            case pos =>
              obtain ⟨g, rfl, hg, hgt, ⟨u0, c0⟩, ⟨u1, c1⟩, fz⟩ := HWR.out k hlt
              have f0 := fz (k * 2)
              have f1 := fz (k * 2 + 1)
              have cb0 := lt_of_cell c0
              have hb := HJL.out
              have HG := Lib.hid hg
              have HGT := Lib.hid hgt
              have HLT := Lib.hid hlt
              clear hg hgt fz
              go_wp2
              go_roundw
              case measure => simp [intOf] <;> omega
              case rel => exact ⟨k + 1, HLT.out, by go_num, (HKR.out.setCell (p := ⟨g, k * 2, none⟩) HG.out _).setCell (p := ⟨g, k * 2 + 1, none⟩) HG.out _, (HBR.out.setNe HGT.out.symm).setNe HGT.out.symm, (HWR.out.set _).set _⟩
            obtain rfl : k = J.near.length := by omega
            clear hk hlt
            have M15 := Lib.hid (M12.out.kept HKR.out)
            clear q0 q1 q2 qb HK14 HBJ HWB14 HKR HBR HWR M12 HJL htj
            obtain ⟨w15, hw⟩ : ∃ x, x = wr := ⟨_, rfl⟩
            subst hw
            obtain ⟨q0, q1, q2⟩ := M15.out.bag.b
            have qb := lt_of_cell q0
            go_wp2_with fail
            clear q0 q1 q2 qb
            have hF := Close_any o ao bo ca cb w15 M15.out.bag.p (by have := HLB.out; omega)
            rw [HRC.out] at hF
            refine hF.mono ?_
            clear hF
            rintro e w16 ⟨za, zc, zb, zd, rfl, hva, hvb, hk⟩
            have IA : Hid (IsProb w16 C za zb) := Lib.hid ⟨ownPairs hva, ownPairs hvb, by have := HCL.out.1; omega, by have := HCL.out.2; omega⟩
            have M16 := Lib.hid (M15.out.kept hk)
            clear hva hvb hk M15
            obtain ⟨w17, e17, hk17, hb17, -⟩ := alloc_prob w16 C.N C.arcs C.near za zc zb zd
            have IA17 := Lib.hid (IA.out.kept hk17)
            have M17 := Lib.hid (M16.out.kept hk17)
            obtain ⟨tz, htz⟩ : ∃ tz, w16.heap.size = tz := ⟨_, rfl⟩
            rw [htz] at hb17
            have HBZ : Hid (ProbBox w17 tz C za zc zb zd) := Lib.hid hb17
            clear hk17 hb17 IA M16
            obtain ⟨p0, p1, p2⟩ := HBZ.out
            have pb := lt_of_cell p0
            obtain ⟨q0, q1, q2⟩ := M17.out.bag.b
            have qb := lt_of_cell q0
            go_wp2_with fail
            clear e17 p0 p1 p2 pb q0 q1 q2 qb htz
            have hF := RClose_any o ao bo ca cb w17 M17.out.bag.p (by have := HLB.out; omega) HNB.out
            rw [HRC.out] at hF
            refine hF.mono ?_
            clear hF
            rintro e w18 ⟨ya', yc', yb', yd', rfl, hva, hvb, hk⟩
            have IB : Hid (IsProb w18 C ya' yb') := Lib.hid ⟨ownPairs hva, ownPairs hvb, by have := HCL.out.1; omega, by have := HCL.out.2; omega⟩
            have M18 := Lib.hid (M17.out.kept hk)
            have IA18 := Lib.hid (IA17.out.kept hk)
            have HBZ18 := Lib.hid (HBZ.out.kept hk)
            clear hva hvb hk M17 IA17 HBZ
            obtain ⟨w19, e19, hk19, hb19, -⟩ := alloc_prob w18 C.N C.arcs C.near ya' yc' yb' yd'
            have IA19 := Lib.hid (IA18.out.kept hk19)
            have IB19 := Lib.hid (IB.out.kept hk19)
            have M19 := Lib.hid (M18.out.kept hk19)
            have HBZ19 := Lib.hid (HBZ18.out.kept hk19)
            obtain ⟨ty, hty⟩ : ∃ ty, w18.heap.size = ty := ⟨_, rfl⟩
            rw [hty] at hb19
            have HBY : Hid (ProbBox w19 ty C ya' yc' yb' yd') := Lib.hid hb19
            clear hk19 hb19 IA18 IB M18 HBZ18
            go_wp2_with fail
            clear e19 hty
            refine (alive_any w19).mono ?_
            rintro e w20 ⟨rfl, hk⟩
            have M20 := Lib.hid (M19.out.kept hk)
            have IA20 := Lib.hid (IA19.out.kept hk)
            have IB20 := Lib.hid (IB19.out.kept hk)
            have HBZ20 := Lib.hid (HBZ19.out.kept hk)
            have HBY20 := Lib.hid (HBY.out.kept hk)
            clear hk M19 IA19 IB19 HBZ19 HBY
            have ee : (ec == ec) = true := by simp
            obtain ⟨p0, p1, p2⟩ := HBZ20.out
            have pb := lt_of_cell p0
            obtain ⟨r0, r1, r2⟩ := HBY20.out
            have rb := lt_of_cell r0
            go_wp2_with fail
            clear p0 p1 p2 pb r0 r1 r2 rb
            refine (Same_any C za zb ya' yb' zc zd yc' yd' w20 IA20.out IB20.out).mono ?_
            rintro e w21 ⟨rfl, hk⟩
            have M21 := Lib.hid (M20.out.kept hk)
            clear hk M20
            obtain ⟨q0, q1, q2⟩ := M21.out.bag.b
            have qb := lt_of_cell q0
            go_wp2_with fail
            clear q0 q1 q2 qb
            refine (sameP_any o.arcs ao aa ca ac w21 M21.out.bag.p.arcs M21.out.a (by have := HLA.out; omega)).mono ?_
            rintro e w22 ⟨rfl, hk⟩
            have M22 := Lib.hid (M21.out.kept hk)
            clear hk M21
            obtain ⟨q0, q1, q2⟩ := M22.out.bag.b
            have qb := lt_of_cell q0
            go_wp2_with fail
            clear q0 q1 q2 qb
            refine (sameP_any o.near bo na cb nc w22 M22.out.bag.p.near M22.out.n (by have := HLB.out; omega)).mono ?_
            rintro e w23 ⟨rfl, hk⟩
            have M23 := Lib.hid (M22.out.kept hk)
            clear hk M22
            go_wp2_with fail
            refine (same_any l lo wa lc wc _ w23 M23.out.bag.l M23.out.i rfl (by have := H24.out; omega)).mono ?_
            rintro e w24 ⟨rfl, hk⟩
            have M24 := Lib.hid (M23.out.kept hk)
            clear hk M23
            go_wp2
            go_ret
            exact ⟨rfl, M24.out.bag.k⟩
end Go.Proofs.Yteljjkghjbofnaa
