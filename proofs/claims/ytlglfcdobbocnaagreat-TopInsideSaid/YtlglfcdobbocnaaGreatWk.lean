/- plane.CheckPoly, Where: the points seen are kept in a map. -/
import Derived.Test.YtlglfcdobbocnaaGreatWj
import Derived.Maps.RangeWalk
import Derived.DeepKeys4
set_option maxRecDepth 100000
namespace Go.Proofs.YtlglfcdobbocnaaGreat
open Go Go.Proofs Go.RowKit Go.ChangeShapes Go.WideShapes
open Go.Maps (Keyed)
attribute [local go_sem] Oper.semAt_some
theorem tryz_laidOut : laidOutB Tryz.prog = true := by kernel_rfl
theorem cellsOf25 : Tryz.prog.cellsOf 25 = 2 := by kernel_rfl
theorem cellsOf3 : Tryz.prog.cellsOf 3 = 1 := by kernel_rfl
theorem row25 : (25 : TypeId) < Tryz.prog.types.size := of_decide_eq_true (by kernel_rfl)
theorem wide25 : (match Tryz.prog.underlying 25 with | some (.array _ _) | some (.struct _) => true | _ => false) = true := by kernel_rfl
theorem law25 : WideMaps.KeyLaw Tryz.prog 25 := deep_law_laid tryz_laidOut (m := 2) (by omega) row25 (by kernel_rfl) wide25
theorem keyed25 : Keyed Tryz.prog 25 := Keyed.of_law law25
theorem keyT25 : Tryz.prog.keyType 25 = true := by kernel_rfl
theorem fuel25 : ∃ m, Tryz.prog.types.size + 1 = m + 1 + 1 := ⟨Tryz.prog.types.size - 1, by have h : (25 : Nat) < Tryz.prog.types.size := row25; omega⟩
def litP (x : Pt) : Lit := .string (keyBytes [.int .i64 x.1, .int .i64 x.2])
def wfI (a : Int) : Prop := (Lit.int .i64 a).wf = true
theorem keyOf_pt {x : Pt} (ha : wfI x.1) (hb : wfI x.2) : keyOf Tryz.prog 25 (ptV x) = some (litP x) := by
  obtain ⟨m, hm⟩ := fuel25
  unfold wfI at ha hb
  unfold keyOf
  rw [hm]
  simp [Tryz.underlying25, Value.formed, cellsOf25, Program.keyLits, Value.cells, cellsOf3, Tryz.underlying3, ha, hb, litP, keyT25]
theorem wf_of {a : Int} (h : 0 ≤ a ∧ a ≤ 20000) : wfI a := WalkArith.wf_i64 (by omega)
theorem litP_inj {x y : Pt} (hx1 : wfI x.1) (hx2 : wfI x.2) (hy1 : wfI y.1) (hy2 : wfI y.2) (h : litP x = litP y) : x = y := by
  have k1 := keyOf_pt hx1 hx2
  have k2 := keyOf_pt hy1 hy2
  rw [h] at k1
  have := keyed25.inj k1 k2
  simp at this
  exact Prod.ext this.1 this.2
theorem litP_key (x : Pt) : WideAt.IsKeyLit (litP x) := trivial
/-- How an element of a map is read: as itself. -/
def rawE (v : Value) : Option (DataW Value × List MemPlace) := some (.held v, [])
theorem rawE_inv {v x : Value} {ps : List MemPlace} (h : rawE v = some (.held x, ps)) : v = x := by
  unfold rawE at h
  simp at h
  exact h.1
/-- Block b is the set of the points A. -/
def SeenM (X : World) (b m : Nat) (A : List Pt) : Prop :=
  ∃ D, X.ownsMap Tryz.prog 25 rawE b m D ∧ (∀ x ∈ A, Sm x) ∧ (∀ x : Pt, Sm x → (Maps.has D (litP x) = true ↔ x ∈ A)) ∧ ∀ (x : Pt) (z : DataW Value), Maps.has D (litP x) = true → D.atKey (litP x) z = .held (.bool true)
theorem sm_wf {x : Pt} (h : Sm x) : wfI x.1 ∧ wfI x.2 := by unfold Sm at h; exact ⟨wf_of (by omega), wf_of (by omega)⟩
theorem SeenM.made (X : World) : SeenM (X.alloc (.map #[] 0)) X.heap.size 0 [] :=
  ⟨.map [], World.ownsMap_made X Tryz.prog 25 rawE, fun x h => (by cases h), fun x _ => by simp [Maps.has], fun x z h => by simp [Maps.has] at h⟩
theorem ownsMap_kept {X Y : World} {b m : Nat} {D : DataW Value} (h : X.ownsMap Tryz.prog 25 rawE b m D) (hk : Kept X Y) : Y.ownsMap Tryz.prog 25 rawE b m D := by
  obtain ⟨es, clock, hb, F, hsz, hD⟩ := h
  exact ⟨es, clock, (hk.below.block b (Array.getElem?_eq_some_iff.1 hb).1).trans hb, F, hsz, hD⟩
theorem SeenM.kept {X Y : World} {b m : Nat} {A : List Pt} (h : SeenM X b m A) (hk : Kept X Y) : SeenM Y b m A := by
  obtain ⟨D, h1, h2, h3, h4⟩ := h
  exact ⟨D, ownsMap_kept h1 hk, h2, h3, h4⟩
theorem has_false_zero {D : DataW Value} {k : Lit} {z : DataW Value} (h : Maps.has D k = false) : D.atKey k z = z := Maps.atKey_of_not_has h z
theorem SeenM.look {X : World} {b m : Nat} {A : List Pt} (h : SeenM X b m A) {x : Pt} (hx : Sm x) :
    (Instr.lookup 68 (.map (some b)) (ptV x) false).run Tryz.prog X = .ok (.bool (decide (x ∈ A))) X := by
  obtain ⟨D, h1, h2, h3, h4⟩ := h
  obtain ⟨v, ps, hr, hv⟩ := h1.lookup keyed25 Tryz.underlying68 (Tryz.zeroValue4 X) (zd := .held (.bool false)) (zp := []) rfl (keyOf_pt (sm_wf hx).1 (sm_wf hx).2)
  rw [hr]
  cases e : Maps.has D (litP x) with
  | true => rw [h4 x _ e] at hv; rw [rawE_inv hv, decide_eq_true ((h3 x hx).1 e)]
  | false =>
    rw [has_false_zero e] at hv
    rw [rawE_inv hv, decide_eq_false (fun k => by rw [(h3 x hx).2 k] at e; cases e)]
theorem SeenM.put {Y : World} {b m : Nat} {A : List Pt} {D : DataW Value} {y : Pt} (hm : Maps.IsMap D) (h2 : ∀ x ∈ A, Sm x) (h3 : ∀ x : Pt, Sm x → (Maps.has D (litP x) = true ↔ x ∈ A)) (h4 : ∀ (x : Pt) (z : DataW Value), Maps.has D (litP x) = true → D.atKey (litP x) z = .held (.bool true)) (hy : Sm y)
    (h : Y.ownsMap Tryz.prog 25 rawE b m (D.put (litP y) (.held (.bool true)))) : SeenM Y b m (A ++ [y]) := by
  refine ⟨_, h, fun x hx => ?_, fun x hx => ?_, fun x z hx => ?_⟩
  · rcases List.mem_append.1 hx with k | k
    · exact h2 x k
    · rw [List.mem_singleton.1 k]; exact hy
  · by_cases e : x = y
    · subst e
      simp [Maps.has_put_same hm (litP_key x)]
    · rw [Maps.has_put_other (fun k => e (litP_inj (sm_wf hx).1 (sm_wf hx).2 (sm_wf hy).1 (sm_wf hy).2 k)), h3 x hx]
      simp [e]
  · by_cases e : litP x = litP y
    · rw [e]
      exact Maps.atKey_put_same (k := litP y) hm (litP_key y) _ _
    · rw [Maps.has_put_other e] at hx
      rw [Maps.atKey_put_other e]
      exact h4 x z hx
theorem polyF_dup {l : List Pt} (h1 : ¬ 200 < l.length) (h2 : ¬ l.length < 3) (h3 : l.all okB = true) {k : Nat} (hk : k < l.length) (h : l[k] ∈ l.take k) : polyF l = 6 := by
  unfold polyF
  rw [if_neg h1, if_neg (by simp only [h3, not_true, or_false]; exact h2), if_pos]
  intro hn
  obtain ⟨j, hj, e⟩ := List.mem_iff_getElem.1 h
  have hj' : j < k ∧ j < l.length := by simp at hj; omega
  rw [List.getElem_take] at e
  exact (List.pairwise_iff_getElem.1 hn) j k hj'.2 hk hj'.1 e
theorem nodup_take {l : List Pt} {k : Nat} (hk : k < l.length) (hn : (l.take k).Nodup) (h : l[k] ∉ l.take k) : (l.take (k + 1)).Nodup := by
  rw [List.take_succ_eq_append_getElem hk, List.nodup_append]
  refine ⟨hn, by simp, fun a ha b hb => ?_⟩
  rw [List.mem_singleton] at hb
  intro e
  subst hb
  exact h (e ▸ ha)
/-- The pairs before i, and those of i before k, meet as they should. -/
def pairsTo (l : List Pt) (i k : Nat) : Prop := ∀ a b, a < b → b < l.length → (a < i ∨ a = i ∧ b < k) → meetF (edgeF l a) (edgeF l b) = wantF l.length a b
theorem pairs_ok {l : List Pt} (h : pairsTo l l.length 0) : pairsOk l = true := by
  unfold pairsOk
  rw [List.all_eq_true]
  intro i hi
  rw [List.all_eq_true]
  intro k hk
  rw [decide_eq_true_eq]
  intro hik
  exact h i k hik (List.mem_range.1 hk) (.inl (List.mem_range.1 hi))
theorem pairs_bad {l : List Pt} {i k : Nat} (hik : i < k) (hk : k < l.length) (h : meetF (edgeF l i) (edgeF l k) ≠ wantF l.length i k) : pairsOk l = false := by
  unfold pairsOk
  rw [List.all_eq_false]
  refine ⟨i, List.mem_range.2 (by omega), ?_⟩
  rw [Bool.not_eq_true, List.all_eq_false]
  refine ⟨k, List.mem_range.2 hk, ?_⟩
  rw [decide_eq_true_eq]
  exact fun g => h (g hik)
theorem polyF_end {l : List Pt} (h1 : ¬ 200 < l.length) (h2 : ¬ l.length < 3) (h3 : l.all okB = true) (h4 : l.Nodup) : polyF l = if pairsOk l then 0 else 10 := by
  unfold polyF
  rw [if_neg h1, if_neg (by simp only [h3, not_true, or_false]; exact h2), if_neg (fun k => k h4)]
set_option maxHeartbeats 4000000 in
theorem checkPoly_any (l : List Pt) (ao : Option Addr) (c : Nat) (w : World) (hp : Pairs w ao l) (hl : l.length < 1099511627776) : Calls Tryz.prog 11 #[.slice ao l.length c] w (Gives (.int .i64 (polyF l)) w) := by
  have HP := Lib.hid hp
  clear hp
  have hmm := @run_makeMap Tryz.prog
  by_cases h1 : 200 < l.length
  · have HR : Hid (polyF l = 2) := Lib.hid (by unfold polyF; rw [if_pos h1])
    have h1' : (200 : Int) < l.length := by omega
    clear h1
    go_enter Tryz.func11, Tryz.ntmps11
    go_wp2
    go_ret
    exact ⟨ret_int HR.out.symm, Kept.refl _⟩
  have h1' : ¬ (200 : Int) < l.length := by omega
  by_cases h2 : l.length < 3
  · have HR : Hid (polyF l = 1) := Lib.hid (by unfold polyF; rw [if_neg h1, if_pos (.inl h2)])
    have h2' : (l.length : Int) < 3 := by omega
    clear h1 h2
    go_enter Tryz.func11, Tryz.ntmps11
    go_wp2
    go_ret
    exact ⟨ret_int HR.out.symm, Kept.refl _⟩
  have h2' : ¬ (l.length : Int) < 3 := by omega
  have H1 := Lib.hid h1
  have H2 := Lib.hid h2
  clear h1 h2
  go_enter Tryz.func11, Tryz.ntmps11
  go_wp2_with fail
  refine (rightAll_any l ao c w (by omega) HP.out).mono ?_
  rintro e w1 ⟨rfl, hk1⟩
  have HK1 := Lib.hid hk1
  clear hk1
  cases h3 : l.all okB
  · have HR : Hid (polyF l = 1) := Lib.hid (by unfold polyF; rw [if_neg H1.out, if_pos (.inr (by rw [h3]; decide))])
    clear h3
    go_wp2
    go_ret
    exact ⟨ret_int HR.out.symm, HK1.out⟩
  have H3 := Lib.hid h3
  have HSM : Hid (∀ x ∈ l, Sm x) := Lib.hid fun x hx => Sm.of_ok (List.all_eq_true.1 h3 x hx)
  clear h3
  obtain ⟨w2, mb, e2, hmb, hk2, hs2⟩ : ∃ w2 mb, w1.alloc (.map #[] 0) = w2 ∧ w1.heap.size = mb ∧ Kept w1 w2 ∧ SeenM w2 mb 0 [] := ⟨_, _, rfl, rfl, (Kept.refl w1).alloc _, SeenM.made w1⟩
  have HS2 := Lib.hid hs2
  have HK2 := Lib.hid (HK1.out.trans hk2)
  have HMB : Hid (w.heap.size ≤ mb) := Lib.hid (by have := HK1.out.size; omega)
  clear hs2 hk2
  go_wp2
  go_loopw [25] (fun i wr => ∃ k : Nat, k ≤ l.length ∧ i = .int .i64 k ∧ SeenM wr mb k (l.take k) ∧ (l.take k).Nodup ∧ Kept w wr) (fun i _ => l.length - (intOf i).toNat)
  case atStart => exact ⟨0, Nat.zero_le _, rfl, by simpa using HS2.out, by simp, HK2.out⟩
  case round =>
    clear e2
    obtain ⟨k, hk, rfl, hs, hn, hkw⟩ := hrel
    have HS := Lib.hid hs
    have HN := Lib.hid hn
    have HKW := Lib.hid hkw
    clear hs hn hkw
    by_cases hlt : k < l.length
    · obtain ⟨b, off, rfl, c0, c1⟩ := (HP.out.kept HKW.out) k hlt
      have hbl := lt_of_cell c0
      obtain ⟨x, hx⟩ : ∃ x, l[k] = x := ⟨_, rfl⟩
      have HX := Lib.hid hx
      have HXS : Hid (Sm x) := Lib.hid (by rw [← hx]; exact HSM.out _ (List.getElem_mem hlt))
      rw [hx] at c0 c1
      clear hx
      obtain ⟨y1, z1, k1, e1, e2, hg1, hb1, hf1, hk2, hb2, hz1⟩ := new_pt wr x
      have HK3 := Lib.hid (HKW.out.trans hk2)
      have HS3 := Lib.hid (HS.out.kept hk2)
      have HB3 := Lib.hid hb2
      clear hk2
      have hlook := HS3.out.look HXS.out
      obtain ⟨a0, a1⟩ := hb1
      obtain ⟨q0, q1⟩ := hb2
      by_cases hmem : x ∈ l.take k
      · have HR : Hid (polyF l = 6) := Lib.hid (polyF_dup H1.out H2.out H3.out hlt (HX.out ▸ hmem))
        rw [decide_eq_true hmem] at hlook
        clear hmem
        go_wp2
        go_ret
        exact ⟨ret_int HR.out.symm, HK3.out⟩
      · rw [decide_eq_false hmem] at hlook
        have HN2 : Hid ((l.take (k + 1)).Nodup) := Lib.hid (nodup_take hlt HN.out (by rw [HX.out]; exact hmem))
        have HTK : Hid (l.take (k + 1) = l.take k ++ [x]) := Lib.hid (by rw [List.take_succ_eq_append_getElem hlt, HX.out])
        clear hmem
        have hs3 := HS3.out
        obtain ⟨D, hD1, hD2, hD3, hD4⟩ := hs3
        have HD1 := Lib.hid hD1
        have HD2 := Lib.hid hD2
        have HD3 := Lib.hid hD3
        have HD4 := Lib.hid hD4
        have HKEY := Lib.hid (keyOf_pt (sm_wf HXS.out).1 (sm_wf HXS.out).2)
        clear hD1 hD2 hD3 hD4
        go_wp2_with (first | (at_mapUpdate; refine wpList_mapUpdate_own _ rfl _ _ _ 68 rfl 25 4 keyed25 Tryz.underlying68 rawE mb k D rfl HD1.out (by unfold maxLen; omega) _ _ (litP x) rfl rfl HKEY.out (.held (.bool true)) [] rfl ?_; intro w6 hown6 hg6; have HO6 := Lib.hid hown6; have HG6 := Lib.hid hg6; clear hown6 hg6) | fail)
        clear e1 e2 a0 a1 q0 q1 c0 c1 hlook
        go_roundw
        case rel => exact ⟨k + 1, by omega, by go_num, by rw [HTK.out]; exact SeenM.put HD1.out.isMap HD2.out HD3.out HD4.out HXS.out HO6.out, HN2.out, Kept.grown HK3.out HG6.out (fun r e => by cases e; exact HMB.out)⟩
        case measure => simp [intOf]; omega
    · have hkl : k = l.length := by omega
      have HND : Hid l.Nodup := Lib.hid (by have := HN.out; rw [hkl, List.take_length] at this; exact this)
      clear HS HN HS2 HK2 hmm
      have HPE := Lib.hid (polyF_end H1.out H2.out H3.out HND.out)
      clear hkl
      go_wp2
      go_loopw [37] (fun iv wr => ∃ i : Nat, i ≤ l.length ∧ iv = .int .i64 i ∧ pairsTo l i 0 ∧ Kept w wr) (fun iv _ => l.length - (intOf iv).toNat)
      case atStart => exact ⟨0, Nat.zero_le _, rfl, fun a b _ _ h => by omega, HKW.out⟩
      case round =>
        clear HKW
        obtain ⟨i, hi, rfl, hpr, hkw⟩ := hrel
        have HPR := Lib.hid hpr
        have HKW := Lib.hid hkw
        clear hpr hkw
        by_cases hil : i < l.length
        ·
          go_wp2
          go_loopw [7] (fun kv wr => ∃ k : Nat, i < k ∧ k ≤ l.length ∧ kv = .int .i64 k ∧ pairsTo l i k ∧ Kept w wr) (fun kv _ => l.length - (intOf kv).toNat)
          case atStart => exact ⟨i + 1, by omega, by omega, by go_num, fun a b h1 h2 h3 => by
              rcases h3 with h3 | ⟨rfl, h3⟩
              · exact HPR.out a b h1 h2 (.inl h3)
              · omega, HKW.out⟩
          case round =>
            clear HPR HKW
            obtain ⟨k, hik, hk, rfl, hpr, hkw⟩ := hrel
            have HPR := Lib.hid hpr
            have HKW := Lib.hid hkw
            clear hpr hkw
            by_cases hkl : k < l.length
            ·
              by_cases d1 : k = i + 1
              ·
                have b1 : ((k : Int) == (i : Int) + 1) = true := by simp; omega
                have D1 := Lib.hid d1
                clear d1
                have HW : Hid (wantF l.length i k = 1) := Lib.hid (by unfold wantF; rw [if_pos (by have := D1.out; omega)])
                go_wp2_with fail
                refine (edge_any l ao c i _ (HP.out.kept HKW.out) hil hl).mono ?_
                rintro e x1 ⟨rfl, hk1⟩
                have HK2 := Lib.hid (HKW.out.trans hk1)
                clear hk1
                go_wp2_with fail
                refine (edge_any l ao c k _ (HP.out.kept HK2.out) hkl hl).mono ?_
                rintro e x2 ⟨rfl, hk1⟩
                have HK3 := Lib.hid (HK2.out.trans hk1)
                clear hk1
                have HM1 := Lib.hid (edgeF_mem hil)
                have HM2 := Lib.hid (edgeF_mem hkl)
                go_wp2_with fail
                refine (meet_any (edgeF l i) (edgeF l k) _ (HSM.out _ HM1.out.1) (HSM.out _ HM1.out.2) (HSM.out _ HM2.out.1) (HSM.out _ HM2.out.2)).mono ?_
                rintro e x3 ⟨rfl, hk1⟩
                have HK4 := Lib.hid (HK3.out.trans hk1)
                clear hk1
                by_cases hme : meetF (edgeF l i) (edgeF l k) = 1
                ·
                  have HME := Lib.hid hme
                  rw [hme]
                  clear hme
                  go_wp2
                  go_roundw
                  case rel =>
                    refine ⟨k + 1, by omega, by omega, by go_num, fun a b h1 h2 h3 => ?_, HK4.out⟩
                    by_cases e : a = i ∧ b = k
                    · rw [e.1, e.2, HW.out]; exact HME.out
                    · exact HPR.out a b h1 h2 (by omega)
                  case measure => simp [intOf]; omega
                ·
                  have HB : Hid (polyF l = 10) := Lib.hid (by rw [HPE.out, pairs_bad hik hkl (by rw [HW.out]; exact hme)]; rfl)
                  have hmb : (meetF (edgeF l i) (edgeF l k) != 1) = true := by simp [hme]
                  go_wp2
                  go_ret
                  exact ⟨ret_int HB.out.symm, HK4.out⟩
              ·
                have b1 : ((k : Int) == (i : Int) + 1) = false := by simp; omega
                by_cases d2 : i = 0
                ·
                  by_cases d3 : k = l.length - 1
                  ·
                    have b2 : ((i : Int) == 0) = true := by simp; omega
                    have b3 : ((k : Int) == (l.length : Int) - 1) = true := by simp; omega
                    have D1 := Lib.hid d1
                    have D2 := Lib.hid d2
                    have D3 := Lib.hid d3
                    clear d1 d2 d3
                    have HW : Hid (wantF l.length i k = 1) := Lib.hid (by unfold wantF; rw [if_pos (by have := D1.out; have := D2.out; have := D3.out; omega)])
                    go_wp2_with fail
                    refine (edge_any l ao c i _ (HP.out.kept HKW.out) hil hl).mono ?_
                    rintro e x1 ⟨rfl, hk1⟩
                    have HK2 := Lib.hid (HKW.out.trans hk1)
                    clear hk1
                    go_wp2_with fail
                    refine (edge_any l ao c k _ (HP.out.kept HK2.out) hkl hl).mono ?_
                    rintro e x2 ⟨rfl, hk1⟩
                    have HK3 := Lib.hid (HK2.out.trans hk1)
                    clear hk1
                    have HM1 := Lib.hid (edgeF_mem hil)
                    have HM2 := Lib.hid (edgeF_mem hkl)
                    go_wp2_with fail
                    refine (meet_any (edgeF l i) (edgeF l k) _ (HSM.out _ HM1.out.1) (HSM.out _ HM1.out.2) (HSM.out _ HM2.out.1) (HSM.out _ HM2.out.2)).mono ?_
                    rintro e x3 ⟨rfl, hk1⟩
                    have HK4 := Lib.hid (HK3.out.trans hk1)
                    clear hk1
                    by_cases hme : meetF (edgeF l i) (edgeF l k) = 1
                    ·
                      have HME := Lib.hid hme
                      rw [hme]
                      clear hme
                      go_wp2
                      go_roundw
                      case rel =>
                        refine ⟨k + 1, by omega, by omega, by go_num, fun a b h1 h2 h3 => ?_, HK4.out⟩
                        by_cases e : a = i ∧ b = k
                        · rw [e.1, e.2, HW.out]; exact HME.out
                        · exact HPR.out a b h1 h2 (by omega)
                      case measure => simp [intOf]; omega
                    ·
                      have HB : Hid (polyF l = 10) := Lib.hid (by rw [HPE.out, pairs_bad hik hkl (by rw [HW.out]; exact hme)]; rfl)
                      have hmb : (meetF (edgeF l i) (edgeF l k) != 1) = true := by simp [hme]
                      go_wp2
                      go_ret
                      exact ⟨ret_int HB.out.symm, HK4.out⟩
                  ·
                    have b2 : ((i : Int) == 0) = true := by simp; omega
                    have b3 : ((k : Int) == (l.length : Int) - 1) = false := by simp; omega
                    have D1 := Lib.hid d1
                    have D2 := Lib.hid d2
                    have D3 := Lib.hid d3
                    clear d1 d2 d3
                    have HW : Hid (wantF l.length i k = 0) := Lib.hid (by unfold wantF; rw [if_neg (by have := D1.out; have := D2.out; have := D3.out; omega)])
                    go_wp2_with fail
                    refine (edge_any l ao c i _ (HP.out.kept HKW.out) hil hl).mono ?_
                    rintro e x1 ⟨rfl, hk1⟩
                    have HK2 := Lib.hid (HKW.out.trans hk1)
                    clear hk1
                    go_wp2_with fail
                    refine (edge_any l ao c k _ (HP.out.kept HK2.out) hkl hl).mono ?_
                    rintro e x2 ⟨rfl, hk1⟩
                    have HK3 := Lib.hid (HK2.out.trans hk1)
                    clear hk1
                    have HM1 := Lib.hid (edgeF_mem hil)
                    have HM2 := Lib.hid (edgeF_mem hkl)
                    go_wp2_with fail
                    refine (meet_any (edgeF l i) (edgeF l k) _ (HSM.out _ HM1.out.1) (HSM.out _ HM1.out.2) (HSM.out _ HM2.out.1) (HSM.out _ HM2.out.2)).mono ?_
                    rintro e x3 ⟨rfl, hk1⟩
                    have HK4 := Lib.hid (HK3.out.trans hk1)
                    clear hk1
                    by_cases hme : meetF (edgeF l i) (edgeF l k) = 0
                    ·
                      have HME := Lib.hid hme
                      rw [hme]
                      clear hme
                      go_wp2
                      go_roundw
                      case rel =>
                        refine ⟨k + 1, by omega, by omega, by go_num, fun a b h1 h2 h3 => ?_, HK4.out⟩
                        by_cases e : a = i ∧ b = k
                        · rw [e.1, e.2, HW.out]; exact HME.out
                        · exact HPR.out a b h1 h2 (by omega)
                      case measure => simp [intOf]; omega
                    ·
                      have HB : Hid (polyF l = 10) := Lib.hid (by rw [HPE.out, pairs_bad hik hkl (by rw [HW.out]; exact hme)]; rfl)
                      have hmb : (meetF (edgeF l i) (edgeF l k) != 0) = true := by simp [hme]
                      go_wp2
                      go_ret
                      exact ⟨ret_int HB.out.symm, HK4.out⟩
                ·
                  have b2 : ((i : Int) == 0) = false := by simp; omega
                  have D1 := Lib.hid d1
                  have D2 := Lib.hid d2
                  clear d1 d2
                  have HW : Hid (wantF l.length i k = 0) := Lib.hid (by unfold wantF; rw [if_neg (by have := D1.out; have := D2.out; omega)])
                  go_wp2_with fail
                  refine (edge_any l ao c i _ (HP.out.kept HKW.out) hil hl).mono ?_
                  rintro e x1 ⟨rfl, hk1⟩
                  have HK2 := Lib.hid (HKW.out.trans hk1)
                  clear hk1
                  go_wp2_with fail
                  refine (edge_any l ao c k _ (HP.out.kept HK2.out) hkl hl).mono ?_
                  rintro e x2 ⟨rfl, hk1⟩
                  have HK3 := Lib.hid (HK2.out.trans hk1)
                  clear hk1
                  have HM1 := Lib.hid (edgeF_mem hil)
                  have HM2 := Lib.hid (edgeF_mem hkl)
                  go_wp2_with fail
                  refine (meet_any (edgeF l i) (edgeF l k) _ (HSM.out _ HM1.out.1) (HSM.out _ HM1.out.2) (HSM.out _ HM2.out.1) (HSM.out _ HM2.out.2)).mono ?_
                  rintro e x3 ⟨rfl, hk1⟩
                  have HK4 := Lib.hid (HK3.out.trans hk1)
                  clear hk1
                  by_cases hme : meetF (edgeF l i) (edgeF l k) = 0
                  ·
                    have HME := Lib.hid hme
                    rw [hme]
                    clear hme
                    go_wp2
                    go_roundw
                    case rel =>
                      refine ⟨k + 1, by omega, by omega, by go_num, fun a b h1 h2 h3 => ?_, HK4.out⟩
                      by_cases e : a = i ∧ b = k
                      · rw [e.1, e.2, HW.out]; exact HME.out
                      · exact HPR.out a b h1 h2 (by omega)
                    case measure => simp [intOf]; omega
                  ·
                    have HB : Hid (polyF l = 10) := Lib.hid (by rw [HPE.out, pairs_bad hik hkl (by rw [HW.out]; exact hme)]; rfl)
                    have hmb : (meetF (edgeF l i) (edgeF l k) != 0) = true := by simp [hme]
                    go_wp2
                    go_ret
                    exact ⟨ret_int HB.out.symm, HK4.out⟩
            ·
              go_wp2
              go_roundw
              case rel =>
                refine ⟨i + 1, by omega, by go_num, fun a b h1 h2 h3 => HPR.out a b h1 h2 (by omega), HKW.out⟩
              case measure => simp [intOf]; omega
        ·
          have HB : Hid (polyF l = 0) := Lib.hid (by
            rw [HPE.out, pairs_ok (fun a b h1 h2 h3 => HPR.out a b h1 h2 (.inl (by omega)))]; rfl)
          go_wp2
          go_ret
          exact ⟨ret_int HB.out.symm, HKW.out⟩
end Go.Proofs.YtlglfcdobbocnaaGreat
