/- What At, On, Walk and Area2 do with a web. -/
import Derived.Test.YtlglfcdobbocnaaGreatXn
set_option maxRecDepth 100000
namespace Go.Proofs.YtlglfcdobbocnaaGreat
open Go Go.Proofs Go.RowKit
attribute [local go_sem] Oper.semAt_some
/-- What hands back numbers, or an error. -/
def MakesE (l : List Int) (n : Int) (w : World) (e : Ending) (w' : World) : Prop := ∃ v, e = .returned (.tuple #[v, .int .i64 n]) ∧ OwnN w' w.heap.size v l ∧ Kept w w'
def atA (ne : Nat) (s : Nat → Sg) (fc : Nat → Int) (p : Pt) : Int × Int := if okB p = true then if onF ne s p = [] then (atF ne s fc p, 0) else (0, 21) else (0, 1)
def onA (ne : Nat) (s : Nat → Sg) (p : Pt) : List Int × Int := if okB p = true then (natL (onF ne s p), 0) else ([], 1)
set_option maxHeartbeats 1000000 in
theorem at1_any (g cp' : Nat) (ap : Option Addr) (np cp : Nat) (ae : Option Addr) (ne ce : Nat) (mf : Int) (P : List Pt) (E : List (Nat × Nat)) (Ed : List Five) (face : List Int) (fc : Nat → Int) (p : Pt) (w : World) (h : WebM w g ap np cp ae ne ce mf P E Ed face) (hf : Figure ne (eS P E)) (hb : PtBox w cp' p) (hr : RightIs Ed ne fc) :
    Calls Tryz.prog 22 #[.pointer (some ⟨g, 0, none⟩), .pointer (some ⟨cp', 0, none⟩)] w (Gives (.tuple #[.int .i64 (atA ne (eS P E) fc p).1, .int .i64 (atA ne (eS P E) fc p).2]) w) := by
  have H := Lib.hid h
  have HF := Lib.hid hf
  have HB := Lib.hid hb
  have HR := Lib.hid hr
  obtain ⟨q0, q1⟩ := hb
  have hl := lt_of_cell q0
  clear h hf hr
  obtain ⟨r, hr⟩ : ∃ r, atA ne (eS P E) fc p = r := ⟨_, rfl⟩
  rw [hr]
  unfold atA at hr
  have HRR := Lib.hid hr
  clear hr
  go_enter Tryz.func22, Tryz.ntmps22
  go_wp2_with fail
  refine (checkPoint_any p w).mono ?_
  rintro e w1 ⟨rfl, hk1⟩
  have HK1 := Lib.hid hk1
  have q0 := hk1.cell q0
  have q1 := hk1.cell q1
  have hl := lt_of_cell q0
  clear hk1
  rcases ckP_cases p with ⟨hp, hc⟩ | ⟨hp, hc⟩
  · rw [hc]
    have HP := Lib.hid hp
    go_wp2_with fail
    refine (onW_any g ap np cp ae ne ce mf P E Ed face p w1 (H.out.kept HK1.out) HF.out hp).mono ?_
    rintro e w2 ⟨v, rfl, hov, hk2⟩
    have HK2 := Lib.hid (HK1.out.trans hk2)
    obtain ⟨ao, c, rfl, -, -⟩ := hov.ints
    have q0 := hk2.cell q0
    have q1 := hk2.cell q1
    have hl := lt_of_cell q0
    have HLN : Hid ((natL (onF ne (eS P E) p)).length = 0 ↔ onF ne (eS P E) p = []) := Lib.hid (by rw [natL_len, List.length_eq_zero_iff])
    generalize (natL (onF ne (eS P E) p)).length = N at HLN
    clear hk2 hov
    by_cases hz : 0 < N
    · have t1 : decide ((0 : Int) < (N : Int)) = true := by simpa using hz
      have hn : ¬ onF ne (eS P E) p = [] := fun e => by have := HLN.out.2 e; omega
      have HRR2 : Hid ((0, 21) = r) := Lib.hid (by have := HRR.out; rw [if_pos HP.out, if_neg hn] at this; exact this)
      clear hn
      go_wp2
      refine bodyPost_ret (results_tmp2 rfl _ _ _) rfl ?_
      exact ⟨by rw [← HRR2.out]; rfl, HK2.out⟩
    · have hn : onF ne (eS P E) p = [] := HLN.out.1 (by omega)
      have hN : N = 0 := by omega
      subst hN
      have HRR2 : Hid ((atF ne (eS P E) fc p, 0) = r) := Lib.hid (by have := HRR.out; rw [if_pos HP.out, if_pos hn] at this; exact this)
      clear hn
      go_wp2_with fail
      refine (at_any g ap np cp ae ne ce mf P E Ed face fc p w2 (H.out.kept HK2.out) HF.out hp HR.out).mono ?_
      rintro e w3 ⟨rfl, hk3⟩
      have HK3 := Lib.hid (HK2.out.trans hk3)
      clear hk3
      go_wp2
      refine bodyPost_ret (results_tmp2 rfl _ _ _) rfl ?_
      exact ⟨by rw [← HRR2.out]; rfl, HK3.out⟩
  · rw [hc]
    have HRR2 : Hid ((0, 1) = r) := Lib.hid (by have := HRR.out; rw [if_neg (by rw [hp]; simp)] at this; exact this)
    go_wp2
    refine bodyPost_ret (results_tmp2 rfl _ _ _) rfl ?_
    exact ⟨by rw [← HRR2.out]; rfl, HK1.out⟩
set_option maxHeartbeats 1000000 in
theorem on1_any (g cp' : Nat) (ap : Option Addr) (np cp : Nat) (ae : Option Addr) (ne ce : Nat) (mf : Int) (P : List Pt) (E : List (Nat × Nat)) (Ed : List Five) (face : List Int) (p : Pt) (w : World) (h : WebM w g ap np cp ae ne ce mf P E Ed face) (hf : Figure ne (eS P E)) (hb : PtBox w cp' p) :
    Calls Tryz.prog 28 #[.pointer (some ⟨g, 0, none⟩), .pointer (some ⟨cp', 0, none⟩)] w (MakesE (onA ne (eS P E) p).1 (onA ne (eS P E) p).2 w) := by
  have H := Lib.hid h
  have HF := Lib.hid hf
  obtain ⟨q0, q1⟩ := hb
  have hl := lt_of_cell q0
  clear h hf
  obtain ⟨r, hr⟩ : ∃ r, onA ne (eS P E) p = r := ⟨_, rfl⟩
  rw [hr]
  unfold onA at hr
  have HRR := Lib.hid hr
  clear hr
  obtain ⟨b, hb⟩ : ∃ b, w.heap.size = b := ⟨_, rfl⟩
  go_enter Tryz.func28, Tryz.ntmps28
  go_wp2_with fail
  refine (checkPoint_any p w).mono ?_
  rintro e w1 ⟨rfl, hk1⟩
  have HK1 := Lib.hid hk1
  have q0 := hk1.cell q0
  have q1 := hk1.cell q1
  have hl := lt_of_cell q0
  clear hk1
  rcases ckP_cases p with ⟨hp, hc⟩ | ⟨hp, hc⟩
  · rw [hc]
    have HRR2 : Hid ((natL (onF ne (eS P E) p), 0) = r) := Lib.hid (by have := HRR.out; rw [if_pos hp] at this; exact this)
    go_wp2_with fail
    refine (onW_any g ap np cp ae ne ce mf P E Ed face p w1 (H.out.kept HK1.out) HF.out hp).mono ?_
    rintro e w2 ⟨v, rfl, hov, hk2⟩
    have HK2 := Lib.hid (HK1.out.trans hk2)
    have HOV := Lib.hid (OwnG.base' hov HK1.out.size)
    clear hk2 hov
    go_wp2
    refine bodyPost_ret (results_tmp2 rfl _ _ _) rfl ?_
    exact ⟨_, by rw [← HRR2.out]; rfl, by rw [← HRR2.out]; exact HOV.out, HK2.out⟩
  · rw [hc]
    have HRR2 : Hid (([], 1) = r) := Lib.hid (by have := HRR.out; rw [if_neg (by rw [hp]; simp)] at this; exact this)
    go_wp2
    refine bodyPost_ret (results_tmp2 rfl _ _ _) rfl ?_
    exact ⟨_, by rw [← HRR2.out]; rfl, by rw [← HRR2.out]; exact OwnG.nil _ _ _ _ _, HK1.out⟩
/-- What is known of a face. -/
structure FaceOk (P : List Pt) (E : List (Nat × Nat)) (face : List Int) (mf f : Int) : Prop where
  h0 : 1 ≤ f
  hm : f ≤ mf
  idx : idxI face f = ((leastF P E f : Nat) : Int)
  lt : leastF P E f < 2 * E.length
set_option maxHeartbeats 1000000 in
theorem areaA_any (g cf : Nat) (ap : Option Addr) (np cp : Nat) (ae : Option Addr) (ne ce : Nat) (mf : Int) (P : List Pt) (E : List (Nat × Nat)) (Ed : List Five) (face : List Int) (f : Int) (w : World) (h : WebM w g ap np cp ae ne ce mf P E Ed face) (hfl : face.length < 1000000) (hc : w.cell? ⟨cf, 0, none⟩ = some (.int .i64 f)) (ho : FaceOk P E face mf f) :
    Calls Tryz.prog 33 #[.pointer (some ⟨g, 0, none⟩), .pointer (some ⟨cf, 0, none⟩)] w (Gives (.tuple #[.int .i64 (areaW P E (orbE P E (leastF P E f))), .int .i64 0]) w) := by
  have H := Lib.hid h
  have HC := Lib.hid hc
  have HO := Lib.hid ho
  have HFL := Lib.hid hfl
  have hl := lt_of_cell hc
  obtain ⟨w0, hw0⟩ : ∃ w0, w.alloc (.cells #[.int .i64 f] 3) = w0 := ⟨_, rfl⟩
  have HK0 : Hid (Kept w w0) := Lib.hid (by rw [← hw0]; exact (Kept.refl w).alloc _)
  have HO0 : Hid (OwnN w0 w.heap.size (.slice (some ⟨w.heap.size, 0, none⟩) 1 1) [f]) := Lib.hid (by rw [← hw0]; exact own_one w f)
  obtain ⟨b, hb⟩ : ∃ b, w.heap.size = b := ⟨_, rfl⟩
  rw [hb] at HO0
  clear h ho hfl
  go_enter Tryz.func33, Tryz.ntmps33
  go_wp2_with fail
  refine (isFace_any g mf f _ w0 (HK0.out.cell H.out.g2) (HO0.out.intsAt).1).mono ?_
  rintro e w1 ⟨rfl, hk1⟩
  have hT : (!(decide (f < 0) || decide (mf < f))) = true := by have := HO.out.h0; have := HO.out.hm; simp; omega
  rw [hT]
  have HK1 := Lib.hid (HK0.out.trans hk1)
  have hc := HK1.out.cell HC.out
  have hl := lt_of_cell hc
  clear hk1 hw0 hT
  go_wp2_with fail
  refine (leastW_any g face f w1 (H.out.kept HK1.out).face HFL.out).mono ?_
  rintro e w2 ⟨rfl, rfl⟩
  rw [HO.out.idx]
  go_wp2_with fail
  refine (walk_any g _ P E w1 (H.out.kept HK1.out).web H.out.ends HO.out.lt).mono ?_
  rintro e w2 ⟨v, rfl, hov, hk2⟩
  have HK2 := Lib.hid (HK1.out.trans hk2)
  obtain ⟨ao, c, rfl, hi, -⟩ := hov.ints
  have HI := Lib.hid hi
  clear hk2 hov hi
  go_wp2_with fail
  refine (areaW_any g P E (orbE P E (leastF P E f)) ao _ c w2 rfl (H.out.kept HK2.out).web H.out.ends H.out.ok HI.out (fun x hx => (inj_nxt P E).orb_lt HO.out.lt hx) (by have := (inj_nxt P E).orb_len HO.out.lt; have := H.out.ends.few; unfold orbE; omega)).mono ?_
  rintro e w3 ⟨rfl, hk3⟩
  have HK3 := Lib.hid (HK2.out.trans hk3)
  clear hk3
  go_wp2
  refine bodyPost_ret (results_tmp2 rfl _ _ _) rfl ?_
  exact ⟨rfl, HK3.out⟩
/-- The first of a way's darts are turned to their tails. -/
def tailL (E : List (Nat × Nat)) (l : List Nat) (k : Nat) : List Int := natL (((l.take k).map (dTail E)) ++ l.drop k)
theorem tailL_len (E : List (Nat × Nat)) (l : List Nat) (k : Nat) : (tailL E l k).length = l.length := by
  unfold tailL
  rw [natL_len]
  simp
  omega
theorem tailL_set {E : List (Nat × Nat)} {l : List Nat} {k : Nat} (h : k < l.length) : tailL E l (k + 1) = (tailL E l k).set k ((dTail E l[k] : Nat) : Int) := by
  unfold tailL
  have hk : (natL ((l.take k).map (dTail E))).length = k := by rw [natL_len]; simp; omega
  rw [List.take_succ_eq_append_getElem h, List.drop_eq_getElem_cons h]
  rw [show natL ((l.take k).map (dTail E) ++ l[k] :: l.drop (k + 1)) = natL ((l.take k).map (dTail E)) ++ (((l[k] : Nat) : Int) :: natL (l.drop (k + 1))) by unfold natL; rw [List.map_append, List.map_cons]]
  rw [List.set_append_right _ _ (by omega), hk, Nat.sub_self, List.set_cons_zero]
  unfold natL
  simp only [List.map_append, List.map_cons, List.map_nil, List.append_assoc, List.cons_append, List.nil_append]
theorem tailL_get {E : List (Nat × Nat)} {l : List Nat} {k : Nat} (h : k < l.length) (h2 : k < (tailL E l k).length) : (tailL E l k)[k] = ((l[k] : Nat) : Int) := by
  unfold tailL natL
  simp only [List.map_append]
  rw [List.getElem_append_right (by simp; omega)]
  simp only [List.length_map, List.length_take, List.getElem_map, List.getElem_drop]
  congr 2
  omega
theorem tailL_zero (E : List (Nat × Nat)) (l : List Nat) : tailL E l 0 = natL l := by unfold tailL; simp
theorem tailL_all (E : List (Nat × Nat)) (l : List Nat) : tailL E l l.length = natL (l.map (dTail E)) := by unfold tailL; simp
theorem atNat {X : World} {base g c n : Nat} {l : List Int} (h : OwnN X base (.slice (some ⟨g, 0, none⟩) n c) l) {k : Nat} (hk : k < l.length) : X.cell? ⟨g, k, none⟩ = some (.int .i64 l[k]) := by
  obtain ⟨b, off, e, hc⟩ := h.intsAt.1 k hk
  cases e
  simpa using hc
set_option maxHeartbeats 2000000 in
theorem walkA_any (g cf : Nat) (ap : Option Addr) (np cp : Nat) (ae : Option Addr) (ne ce : Nat) (mf : Int) (P : List Pt) (E : List (Nat × Nat)) (Ed : List Five) (face : List Int) (f : Int) (w : World) (h : WebM w g ap np cp ae ne ce mf P E Ed face) (hfl : face.length < 1000000) (hc : w.cell? ⟨cf, 0, none⟩ = some (.int .i64 f)) (ho : FaceOk P E face mf f) :
    Calls Tryz.prog 67 #[.pointer (some ⟨g, 0, none⟩), .pointer (some ⟨cf, 0, none⟩)] w (MakesE (natL (walkF P E f)) 0 w) := by
  have H := Lib.hid h
  have HC := Lib.hid hc
  have HO := Lib.hid ho
  have HFL := Lib.hid hfl
  have hl := lt_of_cell hc
  obtain ⟨w0, hw0⟩ : ∃ w0, w.alloc (.cells #[.int .i64 f] 3) = w0 := ⟨_, rfl⟩
  have HK0 : Hid (Kept w w0) := Lib.hid (by rw [← hw0]; exact (Kept.refl w).alloc _)
  have HO0 : Hid (OwnN w0 w.heap.size (.slice (some ⟨w.heap.size, 0, none⟩) 1 1) [f]) := Lib.hid (by rw [← hw0]; exact own_one w f)
  have HWF : Hid (walkF P E f = (orbE P E (leastF P E f)).map (dTail E)) := Lib.hid rfl
  obtain ⟨b, hb⟩ : ∃ b, w.heap.size = b := ⟨_, rfl⟩
  rw [hb] at HO0
  clear h ho hfl
  go_enter Tryz.func67, Tryz.ntmps67
  go_wp2_with fail
  refine (isFace_any g mf f _ w0 (HK0.out.cell H.out.g2) (HO0.out.intsAt).1).mono ?_
  rintro e w1 ⟨rfl, hk1⟩
  have hT : (!(decide (f < 0) || decide (mf < f))) = true := by have := HO.out.h0; have := HO.out.hm; simp; omega
  rw [hT]
  have HK1 := Lib.hid (HK0.out.trans hk1)
  have hc := HK1.out.cell HC.out
  have hl := lt_of_cell hc
  clear hk1 hw0 hT
  go_wp2_with fail
  refine (leastW_any g face f w1 (H.out.kept HK1.out).face HFL.out).mono ?_
  rintro e w2 ⟨rfl, rfl⟩
  rw [HO.out.idx]
  go_wp2_with fail
  refine (walk_any g _ P E w1 (H.out.kept HK1.out).web H.out.ends HO.out.lt).mono ?_
  rintro e w2 ⟨v, rfl, hov, hk2⟩
  have HK2 := Lib.hid (HK1.out.trans hk2)
  have hov := OwnG.base' hov HK1.out.size
  have HLT : Hid (∀ x ∈ orbE P E (leastF P E f), x < 2 * E.length) := Lib.hid (fun x hx => (inj_nxt P E).orb_lt HO.out.lt hx)
  have HPOS : Hid (0 < (orbE P E (leastF P E f)).length) := Lib.hid (List.length_pos_of_mem (orb_self (n := 2 * E.length) (g := nxtF P E) (d := leastF P E f)))
  have HLE : Hid ((orbE P E (leastF P E f)).length ≤ 800) := Lib.hid (by have := (inj_nxt P E).orb_len HO.out.lt; have := H.out.ends.few; unfold orbE; omega)
  generalize orbE P E (leastF P E f) = l at *
  obtain ⟨N, hN⟩ : ∃ N, l.length = N := ⟨_, rfl⟩
  have hv : ∃ k c, v = .slice (some ⟨k, 0, none⟩) N c ∧ b ≤ k := by
    rcases hov.slice intC_len with ⟨e, -⟩ | ⟨k, c, rfl, -, hk, -, -, -⟩
    · have := HPOS.out
      rw [← natL_len, e] at this
      simp at this
    · rw [natL_len, hN]
      exact ⟨k, c, rfl, by omega⟩
  obtain ⟨k, c, rfl, hbk⟩ := hv
  have HOV := Lib.hid (show OwnN w2 b (.slice (some ⟨k, 0, none⟩) N c) (tailL E l 0) by rw [tailL_zero, ← hb]; exact hov)
  have HN := Lib.hid hN
  have hN8 : N ≤ 800 := by rw [← hN]; exact HLE.out
  have HKB := Lib.hid hbk
  clear hk2 hov hc hN
  go_wp2
  go_loopw [20] (fun iv wr => ∃ j : Nat, j ≤ N ∧ iv = .int .i64 j ∧ OwnN wr b (.slice (some ⟨k, 0, none⟩) N c) (tailL E l j) ∧ Kept w wr) (fun iv _ => N - (intOf iv).toNat)
  case atStart => exact ⟨0, Nat.zero_le _, rfl, HOV.out, HK2.out⟩
  case round =>
    clear HOV HK2
    obtain ⟨j, hj, rfl, hov, hkw⟩ := hrel
    have HOV := Lib.hid hov
    have HKW := Lib.hid hkw
    clear hov hkw
    by_cases hlt : j < N
    · have hjl : j < l.length := by rw [HN.out]; exact hlt
      have hjt : j < (tailL E l j).length := by rw [tailL_len]; exact hjl
      have c0 := atNat HOV.out hjt
      rw [tailL_get hjl] at c0
      have hx := HLT.out l[j] (List.getElem_mem hjl)
      have HSET : Hid (tailL E l (j + 1) = (tailL E l j).set j ((dTail E l[j] : Nat) : Int)) := Lib.hid (tailL_set hjl)
      generalize l[j] = x at c0 hx HSET
      obtain ⟨b2, off2, c2, d0, -, -, d3, -⟩ := (H.out.kept HKW.out).web.dart hx
      have HJ := Lib.hid hjt
      have hl0 := lt_of_cell c0
      have hl1 := lt_of_cell d0
      have hl2 := lt_of_cell d3
      have hfz := OwnG.warm HOV.out j
      have HTL := Lib.hid (show (tailL E l j).length = N by rw [tailL_len, HN.out])
      generalize dTail E x = y at d3 HSET
      generalize hM : 2 * E.length = M at d0 hx
      have hM8 : M ≤ 800 := by have := H.out.ends.few; omega
      clear hM
      go_wp2
      go_roundw
      case rel => exact ⟨j + 1, by omega, by simp, by rw [HSET.out]; exact OwnG.setN HOV.out HJ.out _, HKW.out.setCell (p := ⟨k, j, none⟩) (by have := HKB.out; rw [hb]; exact this) _⟩
      case measure => show N - ((j : Int) + 1).toNat < N - (j : Int).toNat; omega
    · obtain rfl : j = N := by omega
      go_wp2
      refine bodyPost_ret (results_tmp2 rfl _ _ _) rfl ?_
      exact ⟨_, rfl, by rw [HWF.out, ← tailL_all, HN.out, hb]; exact HOV.out, HKW.out⟩
end Go.Proofs.YtlglfcdobbocnaaGreat
