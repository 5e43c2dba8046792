/- The face of a point, the edges that contain it. -/
import Derived.Test.YtlglfcdobbocnaaGreatXk
set_option maxRecDepth 100000
namespace Go.Proofs.YtlglfcdobbocnaaGreat
open Go Go.Proofs Go.RowKit
attribute [local go_sem] Oper.semAt_some
/-- Each edge bears the face to its right. -/
def RightIs (Ed : List Five) (ne : Nat) (face : Nat → Int) : Prop := ∀ i, i < ne → (Ed.getD i (0, 0, 0, 0, 0)).2.2.2.1 = face (2 * i + 1)
theorem find_drop {q : Nat → Bool} {l : List Nat} {k : Nat} (hk : k < l.length) : (l.drop k).find? q = if q l[k] then some l[k] else (l.drop (k + 1)).find? q := by
  rw [List.drop_eq_getElem_cons hk, List.find?_cons]
  cases q l[k] <;> rfl
set_option maxHeartbeats 4000000 in
theorem at_any (g : Nat) (ap : Option Addr) (np cp : Nat) (ae : Option Addr) (ne ce : Nat) (mf : Int) (P : List Pt) (E : List (Nat × Nat)) (Ed : List Five) (face : List Int) (fc : Nat → Int) (p : Pt) (w : World) (h : WebM w g ap np cp ae ne ce mf P E Ed face) (hf : Figure ne (eS P E)) (hp : okB p = true) (hr : RightIs Ed ne fc) :
    Calls Tryz.prog 24 #[.pointer (some ⟨g, 0, none⟩), ptV p] w (Gives (.int .i64 (atF ne (eS P E) fc p)) w) := by
  have H := Lib.hid h
  have HF := Lib.hid hf
  have HP := Lib.hid hp
  have HRT := Lib.hid hr
  have hx : 0 ≤ p.1 ∧ p.1 ≤ 10000 := by have := (okB_iff p).1 hp; omega
  have HED : Hid (Ed.length = ne) := Lib.hid h.d.he
  have HNE : Hid (ne ≤ 400) := Lib.hid (by rw [← h.cnt]; exact h.ends.few)
  clear h hf hp hr
  obtain ⟨w0, g0, e0, hg0, hz0, hk0, hb0⟩ := alloc_pt w p
  have HK0 := Lib.hid hk0
  have HB0 := Lib.hid hb0
  obtain ⟨q0, q1⟩ := hb0
  clear hk0
  go_enter Tryz.func24, Tryz.ntmps24
  go_wp2_with fail
  refine (column_any g ap np cp ae ne ce mf P E Ed face p.1 w0 (H.out.kept HK0.out) HF.out hx).mono ?_
  rintro e w1 ⟨v, rfl, ho, hk1⟩
  obtain ⟨ac, cc, rfl, hi, -⟩ := OwnG.ints ho
  have HII := Lib.hid hi
  have HK1 := Lib.hid (HK0.out.trans hk1)
  have HB1 := Lib.hid (HB0.out.kept hk1)
  have HAT : Hid (atF ne (eS P E) fc p = match (columnF ne (eS P E) p.1).find? (fun i => decide (cr (eS P E i).1 (eS P E i).2 p < 0)) with | some i => fc (2 * i + 1) | none => 0) := Lib.hid rfl
  have HCM : Hid (∀ y ∈ columnF ne (eS P E) p.1, y < ne) := Lib.hid (fun y hy => (columnF_mem.1 hy).1)
  have HCL : Hid ((columnF ne (eS P E) p.1).length ≤ 400) := Lib.hid (by
    have h1 := len_of_sub (l := columnF ne (eS P E) p.1) (m := List.range ne) (by
      unfold columnF
      rw [(isort_perm _ _).nodup_iff]
      exact List.nodup_range.sublist List.filter_sublist) (fun y hy => List.mem_range.2 (columnF_mem.1 hy).1)
    rw [List.length_range] at h1
    have := HNE.out
    omega)
  generalize columnF ne (eS P E) p.1 = C at *
  obtain ⟨m, hm⟩ : ∃ m, (natL C).length = m := ⟨_, rfl⟩
  rw [hm]
  have HM : Hid (C.length = m) := Lib.hid (by rw [← hm, natL_len])
  have hm4 : m ≤ 400 := by rw [← HM.out]; exact HCL.out
  clear ho hk1 hi hm q0 q1 e0
  go_wp2
  go_loopw [13] (fun iv wr => ∃ k : Nat, k ≤ m ∧ iv = .int .i64 k ∧ Kept w1 wr ∧ C.find? (fun i => decide (cr (eS P E i).1 (eS P E i).2 p < 0)) = (C.drop k).find? (fun i => decide (cr (eS P E i).1 (eS P E i).2 p < 0))) (fun iv _ => m - (intOf iv).toNat)
  case atStart => exact ⟨0, Nat.zero_le _, rfl, Kept.refl _, rfl⟩
  case round =>
    obtain ⟨k, hk, rfl, hkw, hfd⟩ := hrel
    have HKW := Lib.hid (HK1.out.trans hkw)
    have HKV := Lib.hid hkw
    have HFD := Lib.hid hfd
    clear hkw hfd
    by_cases hlt : k < m
    · have HKL : Hid (0 < C.length - k) := Lib.hid (by have := HM.out; omega)
      obtain ⟨B, off, rfl, hc⟩ := (HII.out.kept HKV.out) k (by rw [natL_len]; have := HKL.out; omega)
      rw [natL_get (by have := HKL.out; omega)] at hc
      have hin := HCM.out _ (List.getElem_mem (show k < C.length by have := HKL.out; omega))
      have HDR := Lib.hid (find_drop (q := fun i => decide (cr (eS P E i).1 (eS P E i).2 p < 0)) (show k < C.length by have := HKL.out; omega))
      generalize C[k]'(by have := HKL.out; omega) = i at hc hin HDR
      have c0 := HKW.out.cell H.out.g0
      have c1 := HKW.out.cell H.out.g1
      have c2 := HKW.out.cell H.out.g2
      have hl0 := lt_of_cell c0
      have HOS := Lib.hid (H.out.okS hin)
      go_wp2_with fail
      refine (seg_any P E Ed ap np cp ae ne ce mf i _ (H.out.d.kept HKW.out) H.out.ends hin).mono ?_
      rintro e w2 ⟨rfl, hk2⟩
      obtain ⟨y1, z1, k1, e1, e2, hg1, hb1, hf1, hk3, hb2, hz1⟩ := new_sg w2 (eS P E i)
      have HK3 := Lib.hid ((HKW.out.trans hk2).trans hk3)
      have HK3' := Lib.hid ((HKV.out.trans hk2).trans hk3)
      have HBS := Lib.hid hb2
      clear hk2 hk3 hc c0 c1 c2
      obtain ⟨a0, a1, a2, a3⟩ := hb1
      obtain ⟨r0, r1, r2, r3⟩ := hb2
      obtain ⟨q0, q1⟩ := HB1.out.kept HK3'.out
      go_wp2_with fail
      refine (Turn_any (eS P E i).1 (eS P E i).2 p _ HOS.out.1 HOS.out.2 HP.out).mono ?_
      rintro e w3 ⟨rfl, hk4⟩
      have HK4 := Lib.hid (HK3.out.trans hk4)
      have HK4' := Lib.hid (HK3'.out.trans hk4)
      clear hk4 e1 e2 a0 a1 a2 a3 r0 r1 r2 r3 q0 q1 hf1
      have htz : turnZ (eS P E i).1 (eS P E i).2 p < 0 ↔ cr (eS P E i).1 (eS P E i).2 p < 0 := by unfold turnZ; rw [cmpI_lt]
      by_cases hlo : cr (eS P E i).1 (eS P E i).2 p < 0
      · have HRES : Hid (atF ne (eS P E) fc p = fc (2 * i + 1)) := Lib.hid (by rw [HAT.out, HFD.out, HDR.out, if_pos (by simpa using hlo)])
        obtain ⟨B2, off2, rfl, d0, d1, d2, d3, d4⟩ := (H.out.d.eds.kept HK4.out) i (by rw [HED.out]; exact hin)
        have hx : Ed[i]'(by rw [HED.out]; exact hin) = Ed.getD i (0, 0, 0, 0, 0) := by rw [List.getD_eq_getElem?_getD, List.getElem?_eq_getElem (by rw [HED.out]; exact hin)]; rfl
        rw [hx, HRT.out i hin] at d3
        have c1 := HK4.out.cell H.out.g1
        have hl1 := lt_of_cell c1
        have hl2 := lt_of_cell d3
        have ht : turnZ (eS P E i).1 (eS P E i).2 p < 0 := htz.2 hlo
        generalize turnZ (eS P E i).1 (eS P E i).2 p = tz at ht ⊢
        clear hx d0 d1 d2 d4 hlo htz
        go_wp2
        go_ret
        exact ⟨ret_int HRES.out.symm, HK4.out⟩
      · have HFD2 : Hid (C.find? (fun i => decide (cr (eS P E i).1 (eS P E i).2 p < 0)) = (C.drop (k + 1)).find? (fun i => decide (cr (eS P E i).1 (eS P E i).2 p < 0))) := Lib.hid (by rw [HFD.out, HDR.out, if_neg (by simpa using hlo)])
        have ht : ¬ turnZ (eS P E i).1 (eS P E i).2 p < 0 := fun c => hlo (htz.1 c)
        generalize turnZ (eS P E i).1 (eS P E i).2 p = tz at ht ⊢
        clear hlo htz
        go_wp2
        go_roundw
        case rel => exact ⟨k + 1, by omega, by go_num, HK4'.out, HFD2.out⟩
        case measure => simp [intOf]; omega
    · have hkm : k = m := by omega
      have HRES : Hid (atF ne (eS P E) fc p = 0) := Lib.hid (by
        rw [HAT.out, HFD.out, List.drop_of_length_le (by have := HM.out; omega)]
        rfl)
      go_wp2
      go_ret
      exact ⟨ret_int HRES.out.symm, HKW.out⟩
theorem far_off {s : Sg} {p : Pt} (hs : ltP s.1 s.2) (h : farB s (p, p) = true) : onB p s = false := by
  unfold onB
  rw [decide_eq_false_iff_not]
  intro ho
  unfold OnS at ho
  rw [ends_lt hs] at ho
  have := on_box ho.1 ho.2.1 ho.2.2
  unfold farB at h
  simp only [Bool.or_eq_true, decide_eq_true_eq] at h
  omega
set_option maxHeartbeats 4000000 in
theorem onW_any (g : Nat) (ap : Option Addr) (np cp : Nat) (ae : Option Addr) (ne ce : Nat) (mf : Int) (P : List Pt) (E : List (Nat × Nat)) (Ed : List Five) (face : List Int) (p : Pt) (w : World) (h : WebM w g ap np cp ae ne ce mf P E Ed face) (hf : Figure ne (eS P E)) (hp : okB p = true) :
    Calls Tryz.prog 23 #[.pointer (some ⟨g, 0, none⟩), ptV p] w (MakesN (natL (onF ne (eS P E) p)) w) := by
  have H := Lib.hid h
  have HP := Lib.hid hp
  have HNE : Hid (ne ≤ 400) := Lib.hid (by rw [← h.cnt]; exact h.ends.few)
  have HON : Hid (∀ i, i < ne → (!farB (eS P E i) (p, p) && OnF p (eS P E i)) = onB p (eS P E i)) := Lib.hid (fun i hi => by
    have ho := h.okS hi
    have hl := hf.lt i hi
    have hs : okS (eS P E i) = true := by rw [okS_iff]; exact ⟨ho.1, ho.2, fun e => ltP_irrefl _ (e ▸ hl)⟩
    unfold OnF
    rw [hp, hs]
    cases hfr : farB (eS P E i) (p, p)
    · simp
    · rw [far_off hl hfr]; rfl)
  have HU : Hid (onF ne (eS P E) p = (List.range ne).filter fun i => onB p (eS P E i)) := Lib.hid rfl
  have g1 := h.g1
  have hl := lt_of_cell g1
  clear h hf hp
  obtain ⟨w0, g0, e0, hg0, hz0, hk0, hb0⟩ := alloc_pt w p
  have HK0 := Lib.hid hk0
  have HB0 := Lib.hid hb0
  have g1 := hk0.cell g1
  have hl := lt_of_cell g1
  obtain ⟨q0, q1⟩ := hb0
  obtain ⟨b, hb⟩ : ∃ b, w0.heap.size = b := ⟨_, rfl⟩
  clear hk0
  go_enter Tryz.func23, Tryz.ntmps23
  go_wp2
  go_loopw [5, 14] (fun v iv wr => ∃ k : Nat, k ≤ ne ∧ iv = .int .i64 k ∧ OwnN wr b v (natL ((List.range k).filter fun i => onB p (eS P E i))) ∧ Kept w0 wr) (fun _ iv _ => ne - (intOf iv).toNat)
  case atStart => exact ⟨0, Nat.zero_le _, rfl, OwnG.nil _ _ _ _ _, Kept.refl w0⟩
  case round =>
    clear g1 hl q0 q1 e0
    obtain ⟨k, hk, rfl, hov, hkw⟩ := hrel
    have HOV := Lib.hid hov
    have HKV := Lib.hid hkw
    have HKW := Lib.hid (HK0.out.trans hkw)
    clear hov hkw
    have hn4 := HNE.out
    by_cases hlt : k < ne
    · have HSUC : Hid ((List.range (k + 1)).filter (fun i => onB p (eS P E i)) = (List.range k).filter (fun i => onB p (eS P E i)) ++ if onB p (eS P E k) then [k] else []) := Lib.hid (by rw [List.range_succ, List.filter_append]; by_cases h : onB p (eS P E k) <;> simp [h])
      have HLEN : Hid ((natL ((List.range k).filter fun i => onB p (eS P E i))).length ≤ 400) := Lib.hid (by
        rw [natL_len]
        have := List.length_filter_le (fun i => onB p (eS P E i)) (List.range k)
        rw [List.length_range] at this
        omega)
      have HOK := Lib.hid (HON.out k hlt)
      generalize hM : natL ((List.range k).filter fun i => onB p (eS P E i)) = M at *
      have HM := Lib.hid hM
      clear hM
      have c0 := HKW.out.cell H.out.g0
      have c1 := HKW.out.cell H.out.g1
      have c2 := HKW.out.cell H.out.g2
      have hl0 := lt_of_cell c0
      go_wp2_with fail
      refine (seg_any P E Ed ap np cp ae ne ce mf k _ (H.out.d.kept HKW.out) H.out.ends hlt).mono ?_
      rintro e w2 ⟨rfl, hk2⟩
      generalize eS P E k = s at *
      obtain ⟨y1, z1, k1, e1, e2, hg1, hb1, hf1, hk3, hb2, hz1⟩ := new_sg w2 s
      have HK3 := Lib.hid ((HKW.out.trans hk2).trans hk3)
      have HK3' := Lib.hid ((HKV.out.trans hk2).trans hk3)
      have HO3 := Lib.hid (OwnG.kept (OwnG.kept HOV.out hk2) hk3)
      have HBS := Lib.hid hb2
      clear hk2 hk3 c0 c1 c2
      obtain ⟨a0, a1, a2, a3⟩ := hb1
      obtain ⟨r0, r1, r2, r3⟩ := hb2
      obtain ⟨q0, q1⟩ := HB0.out.kept HK3'.out
      go_wp2_with fail
      refine (far_any s (p, p) _).mono ?_
      rintro e w3 ⟨rfl, hk4⟩
      have HK4 := Lib.hid (HK3.out.trans hk4)
      have HK4' := Lib.hid (HK3'.out.trans hk4)
      have HO4 := Lib.hid (OwnG.kept HO3.out hk4)
      have HBS4 := Lib.hid (HBS.out.kept hk4)
      have HBP4 := Lib.hid ((HB0.out.kept HK3'.out).kept hk4)
      clear hk4 e1 e2 a0 a1 a2 a3 r0 r1 r2 r3 q0 q1 hf1
      obtain ⟨r0, r1, r2, r3⟩ := HBS4.out
      obtain ⟨q0, q1⟩ := HBP4.out
      obtain ⟨fr, hfr⟩ : ∃ fr, farB s (p, p) = fr := ⟨_, rfl⟩
      rw [hfr] at HOK ⊢
      clear hfr
      cases fr
      · go_wp2_with fail
        refine (On_any p s _).mono ?_
        rintro e w4 ⟨rfl, hk5⟩
        have HK5 := Lib.hid (HK4.out.trans hk5)
        have HK5' := Lib.hid (HK4'.out.trans hk5)
        have HO5 := Lib.hid (OwnG.kept HO4.out hk5)
        have HBZ : Hid (b ≤ w4.heap.size) := Lib.hid (by rw [← hb]; exact HK5'.out.size)
        clear hk5 r0 r1 r2 r3 q0 q1
        obtain ⟨on, hon⟩ : ∃ on, OnF p s = on := ⟨_, rfl⟩
        rw [hon] at HOK ⊢
        have HEQ : Hid (onB p s = on) := Lib.hid (by have := HOK.out; simp at this; exact this.symm)
        rw [HEQ.out] at HSUC
        clear hon
        cases on
        · have HO6 : Hid (OwnN w4 b u5 (natL ((List.range (k + 1)).filter fun i => onB p (eS P E i)))) := Lib.hid (by rw [HSUC.out]; have := HO5.out; rw [← HM.out] at this; simpa using this)
          go_wp2
          go_roundw
          case rel => exact ⟨k + 1, by omega, by go_num, HO6.out, HK5'.out⟩
          case measure => simp [intOf]; omega
        · have HS2 : Hid (natL ((List.range (k + 1)).filter fun i => onB p (eS P E i)) = M ++ [(k : Int)]) := Lib.hid (by rw [HSUC.out, ← HM.out]; unfold natL; simp)
          go_wp2_with (first | (at_builtin; refine append_int _ rfl _ _ rfl b _ _ rfl (OwnG.kept HO5.out ((Kept.refl _).alloc _)) _ (k : Int) rfl (by simp [go_sem]) (by have := HLEN.out; omega) (by have := HBZ.out; simp; omega) ?_; intro ra rc w6 hown6 hg6 hlies6; have HO6 := Lib.hid hown6; have HG6 : Hid (Kept w0 w6) := Lib.hid (Kept.grown (HK5'.out.alloc _) hg6 (fun r e => by rw [hb]; exact (HO5.out.lt r e).1)); clear hown6 hg6 hlies6) | fail)
          go_roundw
          case rel => exact ⟨k + 1, by omega, by go_num, by rw [HS2.out]; exact HO6.out, HG6.out⟩
          case measure => simp [intOf]; omega
      · have HEQ : Hid (onB p s = false) := Lib.hid (by have := HOK.out; simp at this; exact this)
        rw [HEQ.out] at HSUC
        have HO6 : Hid (OwnN w3 b u5 (natL ((List.range (k + 1)).filter fun i => onB p (eS P E i)))) := Lib.hid (by rw [HSUC.out]; have := HO4.out; rw [← HM.out] at this; simpa using this)
        go_wp2
        go_roundw
        case rel => exact ⟨k + 1, by omega, by go_num, HO6.out, HK4'.out⟩
        case measure => simp [intOf]; omega
    · have hkn : k = ne := by omega
      subst hkn
      go_wp2
      go_ret
      exact ⟨_, rfl, by rw [HU.out]; exact OwnG.base' HOV.out (by rw [← hb]; exact HK0.out.size), HKW.out⟩
end Go.Proofs.YtlglfcdobbocnaaGreat
