/- ref.Restrict. -/
import Derived.Test.YteljjkghjbofnaaLf
import Derived.Test.YteljjkghjbofnaaYh
set_option maxRecDepth 100000
namespace Go.Proofs.Yteljjkghjbofnaa
open Go Go.Proofs Go.RowKit
attribute [local go_sem] Oper.semAt_some

theorem insP_len (l : List (Int × Int)) (x : Int × Int) : (insP l x).length ≤ l.length + 1 := by
  induction l with
  | nil => simp [insP]
  | cons z l ih =>
    unfold insP
    split
    · simp only [List.length_cons]; omega
    · split
      · simp
      · simp
/-- A list behind ao that is not in block bx. -/
def LsP (X : World) (bx : Nat) (ao : Option Addr) (c : Nat) (l : List (Int × Int)) : Prop :=
  Pairs X ao l ∧ l.length ≤ c ∧ (ao = none → c = 0) ∧ ∀ ad, ao = some ad → ∃ B off, ad = ⟨B, off, none⟩ ∧ bx < B
theorem LsP.nil (X : World) (bx : Nat) : LsP X bx none 0 [] := ⟨Pairs.nil _ _, Nat.le_refl _, fun _ => rfl, fun ad h => by cases h⟩
theorem LsP.kept {X Y : World} {bx c : Nat} {ao : Option Addr} {l : List (Int × Int)} (h : LsP X bx ao c l) (hk : Kept X Y) : LsP Y bx ao c l := ⟨h.1.kept hk, h.2⟩
theorem LsP.set {X : World} {bx c o : Nat} {ao : Option Addr} {l : List (Int × Int)} (h : LsP X bx ao c l) (u : Value) : LsP (X.setCell ⟨bx, o, none⟩ u) bx ao c l := by
  obtain ⟨h1, h2, h3, h4⟩ := h
  refine ⟨fun i hi => ?_, h2, h3, h4⟩
  obtain ⟨B, off, e, c0, c1⟩ := h1 i hi
  obtain ⟨B', off', e', hne⟩ := h4 _ e
  cases e'
  exact ⟨B, off, e, cell_set_block c0 (Nat.ne_of_gt hne), cell_set_block c1 (Nat.ne_of_gt hne)⟩
theorem LsP.setO {X : World} {bx c b o : Nat} {ao : Option Addr} {l : List (Int × Int)} (h : LsP X bx ao c l) (hlt : b < bx) (u : Value) : LsP (X.setCell ⟨b, o, none⟩ u) bx ao c l := by
  obtain ⟨h1, h2, h3, h4⟩ := h
  refine ⟨fun i hi => ?_, h2, h3, h4⟩
  obtain ⟨B, off, e, c0, c1⟩ := h1 i hi
  obtain ⟨B', off', e', hne⟩ := h4 _ e
  cases e'
  exact ⟨B, off, e, cell_set_block c0 (by omega), cell_set_block c1 (by omega)⟩
theorem InsP.lst {l' : List (Int × Int)} {lo : Option Addr} {w w' : World} {e : Ending} {bx c : Nat} {l : List (Int × Int)} (h : InsP l' lo w e w') (hl : LsP w bx lo c l) (hb : bx < w.heap.size) : ∃ ao c', e = .returned (.slice ao l'.length c') ∧ LsP w' bx ao c' l' ∧ Kept w w' ∧ ∀ ad, ao = some ad → lo = some ad ∨ w.heap.size ≤ ad.block := by
  obtain ⟨ao, c', rfl, h1, h2, h3, h4, h5⟩ := h
  refine ⟨ao, c', rfl, ⟨h1, h2, h3, fun ad had => ?_⟩, h5, fun ad had => ?_⟩
  · obtain ⟨B, off, rfl, h6⟩ := h4 ad had
    refine ⟨B, off, rfl, ?_⟩
    rcases h6 with h6 | h6
    · obtain ⟨B', off', e', hne⟩ := hl.2.2.2 _ h6
      cases e'
      exact hne
    · omega
  · obtain ⟨B, off, rfl, h6⟩ := h4 ad had
    exact h6
theorem LsP.form {X : World} {bx c : Nat} {ao : Option Addr} {l : List (Int × Int)} (h : LsP X bx ao c l) : ∀ ad, ao = some ad → ∃ B off, ad = ⟨B, off, none⟩ := fun ad e => by
  obtain ⟨B, off, e', -⟩ := h.2.2.2 ad e
  exact ⟨B, off, e'⟩
def RPost (P : Prob) (err : Int) (w : World) (e : Ending) (w' : World) : Prop :=
  ∃ ao ca bo cb, e = .returned (.tuple #[probV P ao ca bo cb, .int .i64 err]) ∧ Pairs w' ao P.arcs ∧ Pairs w' bo P.near ∧ Kept w w'
theorem each_go {n : Nat} {l : List Int} {k : Nat} {x : Int} (hx : l[k]? = some x) (h : eachB n (l.take k) = true) (h0 : 0 ≤ x ∧ x < (n : Int)) (hn : x ∉ l.take k) : eachB n (l.take (k + 1)) = true := by
  obtain ⟨hk, e⟩ := List.getElem?_eq_some_iff.1 hx
  obtain ⟨h1, h2⟩ := eachB_iff.1 h
  rw [List.take_succ_eq_append_getElem hk, e]
  refine eachB_iff.2 ⟨fun p hp => ?_, ?_⟩
  · rcases List.mem_append.1 hp with h | h
    · exact h1 p h
    · rw [List.mem_singleton.1 h]; exact h0
  · rw [List.nodup_append]
    exact ⟨h2, by simp, fun a ha b hb e' => by rw [List.mem_singleton.1 hb] at e'; rw [e'] at ha; exact hn ha⟩
theorem each_no {n : Nat} {l : List Int} {k : Nat} {x : Int} (hx : l[k]? = some x) (h : ¬ (0 ≤ x ∧ x < (n : Int)) ∨ x ∈ l.take k) : eachB n l = false := by
  obtain ⟨hk, e⟩ := List.getElem?_eq_some_iff.1 hx
  cases he : eachB n l
  · rfl
  · exfalso
    obtain ⟨h1, h2⟩ := eachB_iff.1 he
    rcases h with h | h
    · exact h (by rw [← e]; exact h1 _ (List.getElem_mem hk))
    · obtain ⟨j, hj, ej⟩ := List.mem_take_iff_getElem.1 h
      have : j = k := (List.getElem_inj h2).1 (ej.trans e.symm)
      omega
theorem Ints.at {X : World} {ao : Option Addr} {l : List Int} (h : Ints X ao l) {k : Nat} (hk : k < l.length) : ∃ x : Int, l[k]? = some x ∧ ∃ B off, ao = some ⟨B, off, none⟩ ∧ X.cell? ⟨B, off + k, none⟩ = some (.int .i64 x) := by
  obtain ⟨B, off, e, hc⟩ := h k hk
  exact ⟨l[k], List.getElem?_eq_getElem hk, B, off, e, hc⟩
theorem fold_next {step : List (Int × Int) → Int × Int → List (Int × Int)} {l : List (Int × Int)} {k : Nat} {y : Int × Int} (hy : l[k]? = some y) : (l.take (k + 1)).foldl step [] = step ((l.take k).foldl step []) y := by
  rw [(drop_at hy).2, List.foldl_append]
  rfl
theorem fold_len {step : List (Int × Int) → Int × Int → List (Int × Int)} (hs : ∀ out x, (step out x).length ≤ out.length + 1) (l : List (Int × Int)) : ∀ out, (l.foldl step out).length ≤ out.length + l.length := by
  induction l with
  | nil => intro out; simp
  | cons x l ih =>
    intro out
    have h1 := ih (step out x)
    have h2 := hs out x
    rw [List.foldl_cons, List.length_cons]
    omega
theorem stepA_len (keep : List Int) (out : List (Int × Int)) (x : Int × Int) : (stepA keep out x).length ≤ out.length + 1 := by
  unfold stepA
  split
  · exact insP_len _ _
  · omega
theorem stepN_len (keep : List Int) (out : List (Int × Int)) (x : Int × Int) : (stepN keep out x).length ≤ out.length + 1 := by
  unfold stepN
  split
  · exact insP_len _ _
  · omega

def preA (keep : List Int) (l : List (Int × Int)) (k : Nat) : List (Int × Int) := (l.take k).foldl (stepA keep) []
def preN (keep : List Int) (l : List (Int × Int)) (k : Nat) : List (Int × Int) := (l.take k).foldl (stepN keep) []
theorem preA_len (keep : List Int) (l : List (Int × Int)) (k : Nat) : (preA keep l k).length ≤ l.length := by
  have h := fold_len (stepA_len keep) (l.take k) []
  have h2 := List.length_take_le' k l
  unfold preA
  simp only [List.length_nil] at h
  omega
theorem preN_len (keep : List Int) (l : List (Int × Int)) (k : Nat) : (preN keep l k).length ≤ l.length := by
  have h := fold_len (stepN_len keep) (l.take k) []
  have h2 := List.length_take_le' k l
  unfold preN
  simp only [List.length_nil] at h
  omega
theorem Ints.frk {w X Y : World} {tb : Nat} {lo : Option Addr} {l : List Int} (h : Ints w lo l) (hk : Kept w X) (hf : FrX X Y tb) (ht : w.heap.size ≤ tb) : Ints Y lo l := fun i hi => by
  obtain ⟨B, off, e, hc⟩ := h i hi
  exact ⟨B, off, e, hf.cell _ _ _ (by have := lt_of_cell hc; omega) (hk.cell hc)⟩
theorem Pairs.frk {w X Y : World} {tb : Nat} {lo : Option Addr} {l : List (Int × Int)} (h : Pairs w lo l) (hk : Kept w X) (hf : FrX X Y tb) (ht : w.heap.size ≤ tb) : Pairs Y lo l := fun i hi => by
  obtain ⟨B, off, e, h0, h1⟩ := h i hi
  exact ⟨B, off, e, hf.cell _ _ _ (by have := lt_of_cell h0; omega) (hk.cell h0), hf.cell _ _ _ (by have := lt_of_cell h0; omega) (hk.cell h1)⟩
theorem ProbBox.frx {X Y : World} {g tb : Nat} {o : Prob} {ao bo : Option Addr} {ca cb : Nat} (h : ProbBox X g o ao ca bo cb) (hf : FrX X Y tb) (hne : g ≠ tb) : ProbBox Y g o ao ca bo cb :=
  ⟨hf.cell _ _ _ hne h.c0, hf.cell _ _ _ hne h.c1, hf.cell _ _ _ hne h.c2⟩
theorem PBox.setB2 {X : World} {bx : Nat} {N : Int} {va vb : Value} (h : PBox X bx N va vb) (vb' : Value) : PBox (X.setCell ⟨bx, 2, none⟩ vb') bx N va vb' :=
  ⟨cell_set_off h.c0 (by decide), cell_set_off h.c1 (by decide), cell_set_same h.c2, fun o => by rw [World.frozen?_setCell]; exact h.fz o⟩

set_option maxHeartbeats 4000000 in
theorem RRestrict_any (o : Prob) (ao bo : Option Addr) (ca cb : Nat) (keep : List Int) (lo : Option Addr) (lc : Nat) (w : World) (ho : IsProb w o ao bo) (hl : Ints w lo keep) (hll : keep.length ≤ 30) (hlc : keep.length ≤ lc) :
    Calls Try.prog 72 #[probV o ao ca bo cb, .slice lo keep.length lc] w (RPost (RestrictR o keep).1 (RestrictR o keep).2 w) := by
  have HO := Lib.hid ho
  have HL := Lib.hid hl
  clear ho hl
  obtain ⟨R, hR⟩ : ∃ R, RestrictR o keep = R := ⟨_, rfl⟩
  rw [hR]
  have HR := Lib.hid hR
  clear hR
  go_enter Try.func72, Try.ntmps72
  go_wp2_with fail
  obtain ⟨w0, e0, hk0, hb0, e5⟩ := alloc_prob w o.N o.arcs o.near ao ca bo cb
  rw [e0]
  clear e0
  have HB2 := Lib.hid (PBox.new w0 0 (.slice none 0 0) (.slice none 0 0))
  have HS0 : Hid (w.heap.size ≤ w0.heap.size) := Lib.hid hk0.size
  have HK1 := Lib.hid (hk0.alloc (.cells #[.int .i64 0, .slice none 0 0, .slice none 0 0] 24))
  have hb1 := hb0.kept ((Kept.refl _).alloc (.cells #[.int .i64 0, .slice none 0 0, .slice none 0 0] 24))
  clear hk0 hb0
  generalize w0.alloc (.cells #[.int .i64 0, .slice none 0 0, .slice none 0 0] 24) = w1 at *
  obtain ⟨g2, hg2⟩ : ∃ g2, w.heap.size + 1 = g2 := ⟨_, rfl⟩
  obtain ⟨g0, hg0⟩ : ∃ g0, w.heap.size = g0 := ⟨_, rfl⟩
  rw [← e5, hg2] at HB2 HS0
  have HG2 : Hid (w.heap.size ≤ g2 ∧ g0 < g2) := Lib.hid (by omega)
  rw [hg0] at hb1
  rw [hg2, hg0]
  clear hg2 e5 hg0 HS0
  have HB1 := Lib.hid hb1
  clear hb1
  obtain ⟨q0, q1, q2⟩ := HB1.out
  have qb := lt_of_cell q0
  go_wp2_with fail
  clear q0 q1 q2 qb
  refine (RCheck_any o ao bo ca cb w1 (HO.out.kept HK1.out)).mono ?_
  rintro e w2 ⟨rfl, hk⟩
  have HKX := Lib.hid (HK1.out.trans hk)
  have HBX := Lib.hid (HB2.out.kept hk)
  have HB2' : Hid (ProbBox w2 g0 o ao ca bo cb) := Lib.hid (HB1.out.kept hk)
  clear hk HK1 HB1 HB2
  by_cases hc : chk o = 0
  case neg =>
    have hb : (chk o != 0) = true := by simp [hc]
    have HC := Lib.hid hc
    clear hc
    obtain ⟨p0, p1, p2, pf⟩ := HBX.out
    have f0 := pf 0
    have f1 := pf 1
    have f2 := pf 2
    have pb := lt_of_cell p0
    clear pf
    have HP9 := Lib.hid ((HBX.out.set 0 (.slice none 0 0) (.slice none 0 0)))
    go_wp2
    refine bodyPost_ret (results_cell_tmp rfl _ _ ⟨g2, 0, none⟩ rfl _ (load24 HP9.out.c0 HP9.out.c1 HP9.out.c2)) rfl ?_
    have hres : R = (⟨0, [], []⟩, chk o) := by
      rw [← HR.out]
      unfold RestrictR
      rw [if_neg HC.out]
    rw [hres]
    exact ⟨none, 0, none, 0, rfl, Pairs.nil _ _, Pairs.nil _ _, ((HKX.out.setCell (p := ⟨g2, 0, none⟩) HG2.out.1 _).setCell (p := ⟨g2, 1, none⟩) HG2.out.1 _).setCell (p := ⟨g2, 2, none⟩) HG2.out.1 _⟩
  have HC := Lib.hid hc
  have HNI := Lib.hid (webOf_nI hc)
  have hb : (chk o != 0) = false := by simp [hc]
  clear hc
  go_wp2
  clear hb
  go_loopw [7] (fun i wr => ∃ k : Nat, k ≤ keep.length ∧ i = .int .i64 k ∧ eachB (webOf o).n (keep.take k) = true ∧ Kept w2 wr) (fun i _ => keep.length - (intOf i).toNat)
  case atStart => exact ⟨0, Nat.zero_le _, rfl, by simp [eachB], Kept.refl _⟩
  case round =>
    obtain ⟨k, hk, rfl, hea, hkr⟩ := hrel
    have HEA := Lib.hid hea
    have HKR := Lib.hid hkr
    clear hea hkr
    by_cases hlt : k < keep.length
    case pos =>
      have HLT := Lib.hid hlt
      obtain ⟨x, hx, B, off, rfl, hcx⟩ := (HL.out.kept (HKX.out.trans HKR.out)).at hlt
      have HXX := Lib.hid hx
      clear hx
      have cxl := lt_of_cell hcx
      obtain ⟨q0, q1, q2⟩ := HB2'.out.kept HKR.out
      have qb := lt_of_cell q0
      have HKX2 := Lib.hid (HKX.out.trans HKR.out)
      have HBX2 := Lib.hid (HBX.out.kept HKR.out)
      by_cases h1 : x < 0
      case pos =>
        have e1 : decide (x < 0) = true := decide_eq_true h1
        have HNO : Hid (eachB (webOf o).n keep = false) := Lib.hid (each_no HXX.out (.inl (by omega)))
        clear h1
        go_wp2
        refine region_tail 23 (by kernel_rfl) (by kernel_rfl) ?_
        simp only [List.take_succ_cons, List.take_zero, List.drop_succ_cons, List.drop_zero]
        iterate 6
          with_reducible refine wpStill_want ?_ (fun K hK => ?_)
          · rfl
          go_simp
          refine hK _ ?_
          clear hK K
        iterate 7
          with_reducible refine wpStill_skip ?_ ?_
          · rfl
          simp only [Act.put, List.setIfInBounds_toArray, List.set_cons_zero, List.set_cons_succ]
        iterate 2
          with_reducible refine wpStill_want ?_ (fun K hK => ?_)
          · rfl
          go_simp
          refine hK _ ?_
          clear hK K
        iterate 8
          with_reducible refine wpStill_skip ?_ ?_
          · rfl
          simp only [Act.put, List.setIfInBounds_toArray, List.set_cons_zero, List.set_cons_succ]
        with_reducible refine wpStill_nil ?_
        clear q0 q1 q2 qb hcx cxl
        have HKX := HKX2
        have HBX := HBX2
        obtain ⟨p0, p1, p2, pf⟩ := HBX.out
        have f0 := pf 0
        have f1 := pf 1
        have f2 := pf 2
        have pb := lt_of_cell p0
        clear pf
        have HP9 := Lib.hid ((HBX.out.set 0 (.slice none 0 0) (.slice none 0 0)).kept (Kept.refl _).drew)
        go_wp2
        refine bodyPost_ret (results_cell_tmp rfl _ _ ⟨g2, 0, none⟩ rfl _ (load24 HP9.out.c0 HP9.out.c1 HP9.out.c2)) rfl ?_
        have hres : R = (⟨0, [], []⟩, 1) := by
          rw [← HR.out]
          unfold RestrictR
          rw [if_pos HC.out, if_neg (by rw [HNO.out]; simp)]
        rw [hres]
        exact ⟨none, 0, none, 0, rfl, Pairs.nil _ _, Pairs.nil _ _, (((HKX.out.setCell (p := ⟨g2, 0, none⟩) HG2.out.1 _).setCell (p := ⟨g2, 1, none⟩) HG2.out.1 _).setCell (p := ⟨g2, 2, none⟩) HG2.out.1 _).drew⟩
      have e1 : decide (x < 0) = false := decide_eq_false h1
      by_cases h2 : x ≥ o.N
      case pos =>
        have e2 : decide (x ≥ o.N) = true := decide_eq_true h2
        have HNO : Hid (eachB (webOf o).n keep = false) := Lib.hid (each_no HXX.out (.inl (by have := HNI.out; omega)))
        clear h1 h2
        go_wp2
        refine region_tail 23 (by kernel_rfl) (by kernel_rfl) ?_
        simp only [List.take_succ_cons, List.take_zero, List.drop_succ_cons, List.drop_zero]
        iterate 15
          with_reducible refine wpStill_want ?_ (fun K hK => ?_)
          · rfl
          go_simp
          refine hK _ ?_
          clear hK K
        iterate 8
          with_reducible refine wpStill_skip ?_ ?_
          · rfl
          simp only [Act.put, List.setIfInBounds_toArray, List.set_cons_zero, List.set_cons_succ]
        with_reducible refine wpStill_nil ?_
        clear q0 q1 q2 qb hcx cxl
        have HKX := HKX2
        have HBX := HBX2
        obtain ⟨p0, p1, p2, pf⟩ := HBX.out
        have f0 := pf 0
        have f1 := pf 1
        have f2 := pf 2
        have pb := lt_of_cell p0
        clear pf
        have HP9 := Lib.hid ((HBX.out.set 0 (.slice none 0 0) (.slice none 0 0)).kept (Kept.refl _).drew)
        go_wp2
        refine bodyPost_ret (results_cell_tmp rfl _ _ ⟨g2, 0, none⟩ rfl _ (load24 HP9.out.c0 HP9.out.c1 HP9.out.c2)) rfl ?_
        have hres : R = (⟨0, [], []⟩, 1) := by
          rw [← HR.out]
          unfold RestrictR
          rw [if_pos HC.out, if_neg (by rw [HNO.out]; simp)]
        rw [hres]
        exact ⟨none, 0, none, 0, rfl, Pairs.nil _ _, Pairs.nil _ _, (((HKX.out.setCell (p := ⟨g2, 0, none⟩) HG2.out.1 _).setCell (p := ⟨g2, 1, none⟩) HG2.out.1 _).setCell (p := ⟨g2, 2, none⟩) HG2.out.1 _).drew⟩
      have e2 : decide (x ≥ o.N) = false := decide_eq_false h2
      have HP : Hid (0 ≤ x ∧ x < ((webOf o).n : Int)) := Lib.hid (by have := HNI.out; omega)
      have hki : (k : Int) ≤ (lc : Int) := by omega
      have hkc : k ≤ lc := by omega
      have hF := Rhas_any (keep.take k) (some ⟨B, off, none⟩) lc x wr.drew ((((HL.out.kept HKX.out).kept HKR.out).kept (Kept.refl _).drew).take k) (by rw [List.length_take]; omega)
      rw [List.length_take, Nat.min_eq_left hk] at hF
      have HF := Lib.hid hF
      clear hF h1 h2
      by_cases hm : x ∈ keep.take k
      case pos =>
        have HNO : Hid (eachB (webOf o).n keep = false) := Lib.hid (each_no HXX.out (.inr hm))
        have e3 : decide (x ∈ keep.take k) = true := decide_eq_true hm
        rw [e3] at HF
        clear hm e3
        go_wp2
        refine region_tail 23 (by kernel_rfl) (by kernel_rfl) ?_
        simp only [List.take_succ_cons, List.take_zero, List.drop_succ_cons, List.drop_zero]
        iterate 22
          with_reducible refine wpStill_want ?_ (fun K hK => ?_)
          · rfl
          go_simp
          refine hK _ ?_
          clear hK K
        still_call Calls_still (HF.out)
        with_reducible refine wpStill_nil ?_
        clear q0 q1 q2 qb hcx cxl
        have HKX := HKX2
        have HBX := HBX2
        obtain ⟨p0, p1, p2, pf⟩ := HBX.out
        have f0 := pf 0
        have f1 := pf 1
        have f2 := pf 2
        have pb := lt_of_cell p0
        clear pf
        have HP9 := Lib.hid ((HBX.out.set 0 (.slice none 0 0) (.slice none 0 0)).kept (Kept.refl _).drew)
        go_wp2
        refine bodyPost_ret (results_cell_tmp rfl _ _ ⟨g2, 0, none⟩ rfl _ (load24 HP9.out.c0 HP9.out.c1 HP9.out.c2)) rfl ?_
        have hres : R = (⟨0, [], []⟩, 1) := by
          rw [← HR.out]
          unfold RestrictR
          rw [if_pos HC.out, if_neg (by rw [HNO.out]; simp)]
        rw [hres]
        exact ⟨none, 0, none, 0, rfl, Pairs.nil _ _, Pairs.nil _ _, (((HKX.out.setCell (p := ⟨g2, 0, none⟩) HG2.out.1 _).setCell (p := ⟨g2, 1, none⟩) HG2.out.1 _).setCell (p := ⟨g2, 2, none⟩) HG2.out.1 _).drew⟩
      have HGO : Hid (eachB (webOf o).n (keep.take (k + 1)) = true) := Lib.hid (each_go HXX.out HEA.out HP.out hm)
      have e3 : decide (x ∈ keep.take k) = false := decide_eq_false hm
      rw [e3] at HF
      clear hm e3
      go_wp2
      refine region_tail 23 (by kernel_rfl) (by kernel_rfl) ?_
      simp only [List.take_succ_cons, List.take_zero, List.drop_succ_cons, List.drop_zero]
      iterate 22
        with_reducible refine wpStill_want ?_ (fun K hK => ?_)
        · rfl
        go_simp
        refine hK _ ?_
        clear hK K
      still_call Calls_still (HF.out)
      with_reducible refine wpStill_nil ?_
      go_wp2
      go_roundw
      case measure => have := HLT.out; simp [intOf] <;> omega
      case rel => exact ⟨k + 1, HLT.out, by go_num, HGO.out, HKR.out.drew⟩
    obtain rfl : k = keep.length := by omega
    have HEK : Hid (eachB (webOf o).n keep = true) := Lib.hid (by have h := HEA.out; rw [List.take_length] at h; exact h)
    have HX : Hid (R = (⟨keep.length, o.arcs.foldl (stepA keep) [], o.near.foldl (stepN keep) []⟩, 0)) := Lib.hid (by
      rw [← HR.out]
      unfold RestrictR
      rw [if_pos HC.out, if_pos HEK.out, rest_arcs HC.out HEK.out, rest_near HC.out HEK.out])
    have HKZ := Lib.hid (HKX.out.trans HKR.out)
    have HBZ := Lib.hid (HBX.out.kept HKR.out)
    have HBO := Lib.hid (HB2'.out.kept HKR.out)
    have HLA := Lib.hid (arcs_len HC.out)
    have HLN := Lib.hid (near_lenJ HC.out)
    clear hk hlt HEA HKR HEK HR HKX HBX HB2' HNI
    go_wp2_with fail
    obtain ⟨w4, e4⟩ : ∃ x, wr.alloc (.cells #[.int .i64 (keep.length : Int), .slice none 0 0, .slice none 0 0] 24) = x := ⟨_, rfl⟩
    obtain ⟨tb, htb⟩ : ∃ x, wr.heap.size = x := ⟨_, rfl⟩
    rw [e4, htb]
    have hk4 : Kept wr w4 := by rw [← e4]; exact (Kept.refl _).alloc _
    have hpb : PBox w4 tb (keep.length : Int) (.slice none 0 0) (.slice none 0 0) := by
      have h := PBox.new wr (keep.length : Int) (.slice none 0 0) (.slice none 0 0)
      rw [e4, htb] at h
      exact h
    have HTB : Hid (tb < w4.heap.size ∧ w.heap.size ≤ tb ∧ g2 < tb ∧ g0 < tb) := Lib.hid ⟨lt_of_cell hpb.c0, by rw [← htb]; exact HKZ.out.size, by rw [← htb]; exact lt_of_cell HBZ.out.c0, by rw [← htb]; exact lt_of_cell HBO.out.c0⟩
    have HK4 := Lib.hid (HKZ.out.trans hk4)
    have HBX4 := Lib.hid (HBZ.out.kept hk4)
    have HBO4 := Lib.hid (HBO.out.kept hk4)
    have HPB := Lib.hid hpb
    clear hk4 hpb HKZ HBZ HBO e4 htb
    have HKP : Hid (∀ X, FrX w4 X tb → Ints X lo keep) := Lib.hid fun X hf => HL.out.frk HK4.out hf HTB.out.2.1
    have HAR : Hid (∀ X, FrX w4 X tb → Pairs X ao o.arcs) := Lib.hid fun X hf => HO.out.arcs.frk HK4.out hf HTB.out.2.1
    have HNR : Hid (∀ X, FrX w4 X tb → Pairs X bo o.near) := Lib.hid fun X hf => HO.out.near.frk HK4.out hf HTB.out.2.1
    have HBB : Hid (∀ X, FrX w4 X tb → ProbBox X g0 o ao ca bo cb) := Lib.hid fun X hf => HBO4.out.frx hf (by have := HTB.out; omega)
    have HPL : Hid (∀ k, (preA keep o.arcs k).length ≤ 576 ∧ (preN keep o.near k).length ≤ 576) := Lib.hid fun k => ⟨Nat.le_trans (preA_len keep o.arcs k) HLA.out, Nat.le_trans (preN_len keep o.near k) HLN.out⟩
    have HXX : Hid (R = (⟨keep.length, preA keep o.arcs o.arcs.length, preN keep o.near o.near.length⟩, 0)) := Lib.hid (by
      rw [HX.out]
      unfold preA preN
      rw [List.take_length, List.take_length])
    have HN0 : Hid (∀ X, LsP X tb none 0 (preN keep o.near 0)) := Lib.hid fun X => LsP.nil X tb
    have hla := HLA.out
    have hln := HLN.out
    clear HX HO HL HBO4
    go_loopw [9, 10, 11] (fun i _ _ wr => ∃ (k : Nat) (xa : Option Addr) (xc : Nat), k ≤ o.arcs.length ∧ i = .int .i64 k ∧ Kept w wr ∧ FrX w4 wr tb ∧ PBox wr tb (keep.length : Int) (.slice xa (preA keep o.arcs k).length xc) (.slice none 0 0) ∧ LsP wr tb xa xc (preA keep o.arcs k)) (fun i _ _ _ => o.arcs.length - (intOf i).toNat)
    case atStart => exact ⟨0, none, 0, Nat.zero_le _, rfl, HK4.out, FrX.refl _ _, HPB.out, LsP.nil _ _⟩
    case round =>
      obtain ⟨k, xa, xc, hk, rfl, hkr, hfr, hbx, hls⟩ := hrel
      have HKR := Lib.hid hkr
      have HFR := Lib.hid hfr
      have HBR := Lib.hid hbx
      have HLS := Lib.hid hls
      skip
      clear hkr hfr hbx hls 
      obtain ⟨q0, q1, q2⟩ := HBB.out _ HFR.out
      have qb := lt_of_cell q0
      by_cases hlt : k < o.arcs.length
      case pos =>
        have HLT := Lib.hid hlt
        obtain ⟨y, hy, B, off, rfl, c0, c1⟩ := (HAR.out _ HFR.out).at hlt
        have HY := Lib.hid hy
        clear hy
        obtain ⟨y1, y2⟩ := y
        simp only [] at c0 c1
        have cbl := lt_of_cell c0
        go_wp2_with fail
        refine (Rindex_any keep lo lc y1 wr (HKP.out _ HFR.out) (by omega)).mono ?_
        rintro e w7 ⟨rfl, hw7⟩
        subst hw7
        go_wp2_with fail
        refine (Rindex_any keep lo lc y2 wr (HKP.out _ HFR.out) (by omega)).mono ?_
        rintro e w8 ⟨rfl, hw8⟩
        subst hw8
        clear c0 c1 cbl q0 q1 q2 qb
        have HST := Lib.hid (fold_next (step := stepA keep) HY.out)
        obtain ⟨i1, hi1⟩ : ∃ i, idxR keep y1 = i := ⟨_, rfl⟩
        obtain ⟨i2, hi2⟩ : ∃ i, idxR keep y2 = i := ⟨_, rfl⟩
        rw [hi1, hi2]
        have HI := Lib.hid (And.intro hi1 hi2)
        clear hi1 hi2
        by_cases h12 : 0 ≤ i1 ∧ 0 ≤ i2
        case neg =>
          have HNX : Hid (preA keep o.arcs (k + 1) = preA keep o.arcs k) := Lib.hid (by
            have h := HST.out
            unfold preA
            rw [h]
            unfold stepA
            rw [if_neg (by rw [HI.out.1, HI.out.2]; exact h12)])
          by_cases h1 : i1 ≥ 0
          case neg =>
            have e1 : decide (i1 ≥ 0) = false := decide_eq_false h1
            clear h12 h1
            go_wp2
            go_roundw
            case measure => have := HLT.out; simp [intOf] <;> omega
            case rel => exact ⟨k + 1, xa, xc, HLT.out, by go_num, HKR.out, HFR.out, by rw [HNX.out]; exact HBR.out, by rw [HNX.out]; exact HLS.out⟩
          have e1 : decide (i1 ≥ 0) = true := decide_eq_true h1
          have e2 : decide (i2 ≥ 0) = false := decide_eq_false (by omega)
          clear h12 h1
          go_wp2
          go_roundw
          case measure => have := HLT.out; simp [intOf] <;> omega
          case rel => exact ⟨k + 1, xa, xc, HLT.out, by go_num, HKR.out, HFR.out, by rw [HNX.out]; exact HBR.out, by rw [HNX.out]; exact HLS.out⟩
        have e1 : decide (i1 ≥ 0) = true := decide_eq_true h12.1
        have e2 : decide (i2 ≥ 0) = true := decide_eq_true h12.2
        have HNX : Hid (preA keep o.arcs (k + 1) = insP (preA keep o.arcs k) (i1, i2)) := Lib.hid (by
          have h := HST.out
          have e : preA keep o.arcs (k + 1) = (preA keep o.arcs k |> fun L => stepA keep L (y1, y2)) := by unfold preA; exact h
          rw [e]
          show stepA keep _ (y1, y2) = _
          unfold stepA
          simp only []
          rw [HI.out.1, HI.out.2, if_pos h12])
        clear h12 HST
        obtain ⟨p0, p1, p2, pf⟩ := HBR.out
        have pb := lt_of_cell p0
        clear pf
        have HLB := Lib.hid (HPL.out k)
        go_wp2_with fail
        clear p0 p1 p2 pb e1 e2
        have hF : Calls Try.prog 134 #[.slice xa (preA keep o.arcs k).length xc, .agg #[.int .i64 (i1), .int .i64 (i2)]] wr (InsP (insP (preA keep o.arcs k) (i1, i2)) xa wr) := Rinsert_any (preA keep o.arcs k) xa xc (i1, i2) wr HLS.out.1 HLS.out.2.2.1 HLS.out.form HLS.out.2.1 (by have := HLB.out; omega)
        refine hF.mono ?_
        clear hF
        intro e w9 hins
        obtain ⟨xa', xc', rfl, hls', hk9, -⟩ := hins.lst HLS.out (by have := HTB.out; have := HFR.out.size; omega)
        have HLS9 := Lib.hid hls'
        have HK9 := Lib.hid hk9
        have HB9 := Lib.hid (HBR.out.kept hk9)
        clear hins hls' hk9
        rw [← HNX.out] at HLS9 ⊢
        obtain ⟨p0, p1, p2, pf⟩ := HB9.out
        have f1 := pf 1
        have pb := lt_of_cell p0
        clear pf
        go_wp2
        go_roundw
        case measure => have := HLT.out; simp [intOf] <;> omega
        case rel =>
          have ht := HTB.out
          exact ⟨k + 1, xa', xc', HLT.out, by go_num, (HKR.out.trans HK9.out).setCell (p := ⟨tb, 1, none⟩) (by show _ ≤ tb; omega) _, (HFR.out.kept HK9.out).setJ 1 _, HB9.out.set1 _, HLS9.out.set _⟩
      obtain rfl : k = o.arcs.length := by omega
      have HKA := Lib.hid HKR.out
      have HFA := Lib.hid HFR.out
      have HBA := Lib.hid HBR.out
      have HLX := Lib.hid HLS.out
      clear hk hlt HKR HFR HBR HLS HK4 HPB HAR
      obtain ⟨wq, hwq⟩ : ∃ x, x = wr := ⟨_, rfl⟩
      subst hwq
      go_wp2_with fail
      clear q0 q1 q2 qb
      go_loopw [12, 13, 14] (fun i _ _ wr => ∃ (k : Nat) (ya : Option Addr) (yc : Nat), k ≤ o.near.length ∧ i = .int .i64 k ∧ Kept w wr ∧ FrX w4 wr tb ∧ PBox wr tb (keep.length : Int) (.slice xa (preA keep o.arcs o.arcs.length).length xc) (.slice ya (preN keep o.near k).length yc) ∧ LsP wr tb xa xc (preA keep o.arcs o.arcs.length) ∧ LsP wr tb ya yc (preN keep o.near k)) (fun i _ _ _ => o.near.length - (intOf i).toNat)
      case atStart => exact ⟨0, none, 0, Nat.zero_le _, rfl, HKA.out, HFA.out, HBA.out, HLX.out, HN0.out _⟩
      case round =>
        obtain ⟨k, ya, yc, hk, rfl, hkr, hfr, hbx, hlx, hls⟩ := hrel
        have HKR := Lib.hid hkr
        have HFR := Lib.hid hfr
        have HBR := Lib.hid hbx
        have HLS := Lib.hid hls
        have HLXR := Lib.hid hlx
        clear hkr hfr hbx hls hlx
        obtain ⟨q0, q1, q2⟩ := HBB.out _ HFR.out
        have qb := lt_of_cell q0
        by_cases hlt : k < o.near.length
        case pos =>
          have HLT := Lib.hid hlt
          obtain ⟨y, hy, B, off, rfl, c0, c1⟩ := (HNR.out _ HFR.out).at hlt
          have HY := Lib.hid hy
          clear hy
          obtain ⟨y1, y2⟩ := y
          simp only [] at c0 c1
          have cbl := lt_of_cell c0
          go_wp2_with fail
          refine (Rindex_any keep lo lc y1 wr (HKP.out _ HFR.out) (by omega)).mono ?_
          rintro e w7 ⟨rfl, hw7⟩
          subst hw7
          go_wp2_with fail
          refine (Rindex_any keep lo lc y2 wr (HKP.out _ HFR.out) (by omega)).mono ?_
          rintro e w8 ⟨rfl, hw8⟩
          subst hw8
          clear c0 c1 cbl q0 q1 q2 qb
          have HST := Lib.hid (fold_next (step := stepN keep) HY.out)
          obtain ⟨i1, hi1⟩ : ∃ i, idxR keep y1 = i := ⟨_, rfl⟩
          obtain ⟨i2, hi2⟩ : ∃ i, idxR keep y2 = i := ⟨_, rfl⟩
          rw [hi1, hi2]
          have HI := Lib.hid (And.intro hi1 hi2)
          clear hi1 hi2
          by_cases h12 : 0 ≤ i1 ∧ 0 ≤ i2
          case neg =>
            have HNX : Hid (preN keep o.near (k + 1) = preN keep o.near k) := Lib.hid (by
              have h := HST.out
              unfold preN
              rw [h]
              unfold stepN
              rw [if_neg (by rw [HI.out.1, HI.out.2]; exact h12)])
            by_cases h1 : i1 ≥ 0
            case neg =>
              have e1 : decide (i1 ≥ 0) = false := decide_eq_false h1
              clear h12 h1
              go_wp2
              go_roundw
              case measure => have := HLT.out; simp [intOf] <;> omega
              case rel => exact ⟨k + 1, ya, yc, HLT.out, by go_num, HKR.out, HFR.out, by rw [HNX.out]; exact HBR.out, HLXR.out, by rw [HNX.out]; exact HLS.out⟩
            have e1 : decide (i1 ≥ 0) = true := decide_eq_true h1
            have e2 : decide (i2 ≥ 0) = false := decide_eq_false (by omega)
            clear h12 h1
            go_wp2
            go_roundw
            case measure => have := HLT.out; simp [intOf] <;> omega
            case rel => exact ⟨k + 1, ya, yc, HLT.out, by go_num, HKR.out, HFR.out, by rw [HNX.out]; exact HBR.out, HLXR.out, by rw [HNX.out]; exact HLS.out⟩
          have e1 : decide (i1 ≥ 0) = true := decide_eq_true h12.1
          have e2 : decide (i2 ≥ 0) = true := decide_eq_true h12.2
          have HNX : Hid (preN keep o.near (k + 1) = insP (preN keep o.near k) (min i1 i2, max i1 i2)) := Lib.hid (by
            have h := HST.out
            have e : preN keep o.near (k + 1) = (preN keep o.near k |> fun L => stepN keep L (y1, y2)) := by unfold preN; exact h
            rw [e]
            show stepN keep _ (y1, y2) = _
            unfold stepN
            simp only []
            rw [HI.out.1, HI.out.2, if_pos h12])
          clear h12 HST
          obtain ⟨p0, p1, p2, pf⟩ := HBR.out
          have pb := lt_of_cell p0
          clear pf
          have HLB := Lib.hid (HPL.out k)
          go_wp2_with fail
          clear p0 p1 p2 pb e1 e2
          have hF : Calls Try.prog 134 #[.slice ya (preN keep o.near k).length yc, .agg #[.int .i64 (min i1 i2), .int .i64 (max i1 i2)]] wr (InsP (insP (preN keep o.near k) (min i1 i2, max i1 i2)) ya wr) := Rinsert_any (preN keep o.near k) ya yc (min i1 i2, max i1 i2) wr HLS.out.1 HLS.out.2.2.1 HLS.out.form HLS.out.2.1 (by have := HLB.out; omega)
          refine hF.mono ?_
          clear hF
          intro e w9 hins
          obtain ⟨xa', xc', rfl, hls', hk9, -⟩ := hins.lst HLS.out (by have := HTB.out; have := HFR.out.size; omega)
          have HLS9 := Lib.hid hls'
          have HK9 := Lib.hid hk9
          have HB9 := Lib.hid (HBR.out.kept hk9)
          clear hins hls' hk9
          rw [← HNX.out] at HLS9 ⊢
          obtain ⟨p0, p1, p2, pf⟩ := HB9.out
          have f1 := pf 2
          have pb := lt_of_cell p0
          clear pf
          go_wp2
          go_roundw
          case measure => have := HLT.out; simp [intOf] <;> omega
          case rel =>
            have ht := HTB.out
            exact ⟨k + 1, xa', xc', HLT.out, by go_num, (HKR.out.trans HK9.out).setCell (p := ⟨tb, 2, none⟩) (by show _ ≤ tb; omega) _, (HFR.out.kept HK9.out).setJ 2 _, HB9.out.setB2 _, (HLXR.out.kept HK9.out).set _, HLS9.out.set _⟩
        obtain rfl : k = o.near.length := by omega
        clear hk hlt
        have HP9 := Lib.hid (HBX4.out.fr HFR.out (by have := HTB.out; omega))
        obtain ⟨p0, p1, p2, pf⟩ := HBR.out
        have pb := lt_of_cell p0
        obtain ⟨s0, s1, s2, sf⟩ := HP9.out
        have f0 := sf 0
        have f1 := sf 1
        have f2 := sf 2
        have sb := lt_of_cell s0
        clear pf sf
        have HB9 := Lib.hid (HP9.out.set (keep.length : Int) (.slice xa (preA keep o.arcs o.arcs.length).length xc) (.slice ya (preN keep o.near o.near.length).length yc))
        go_wp2
        refine bodyPost_ret (results_cell_tmp rfl _ _ ⟨g2, 0, none⟩ rfl _ (load24 HB9.out.c0 HB9.out.c1 HB9.out.c2)) rfl ?_
        have ht := HTB.out
        rw [HXX.out]
        exact ⟨xa, xc, ya, yc, rfl, (((HLXR.out.setO ht.2.2.1 _).setO ht.2.2.1 _).setO ht.2.2.1 _).1, (((HLS.out.setO ht.2.2.1 _).setO ht.2.2.1 _).setO ht.2.2.1 _).1, ((HKR.out.setCell (p := ⟨g2, 0, none⟩) HG2.out.1 _).setCell (p := ⟨g2, 1, none⟩) HG2.out.1 _).setCell (p := ⟨g2, 2, none⟩) HG2.out.1 _⟩
end Go.Proofs.Yteljjkghjbofnaa
