/- plane.where. -/
import Derived.Test.YtlglfcdobbocnaaGreatWi
set_option maxRecDepth 100000
namespace Go.Proofs.YtlglfcdobbocnaaGreat
open Go Go.Proofs Go.RowKit
attribute [local go_sem] Oper.semAt_some
theorem edgeF_mem {l : List Pt} {i : Nat} (hi : i < l.length) : (edgeF l i).1 ∈ l ∧ (edgeF l i).2 ∈ l := by
  have hj : (i + 1) % l.length < l.length := Nat.mod_lt _ (by omega)
  rw [edgeF_eq hi hj rfl]
  exact ⟨List.getElem_mem hi, List.getElem_mem hj⟩
/-- No edge before k has the point. -/
def offTo (l : List Pt) (p : Pt) (k : Nat) : Prop := ∀ i, i < k → onB p (edgeF l i) = false
theorem whereF_on {l : List Pt} {p : Pt} {k : Nat} (hk : k < l.length) (h : onB p (edgeF l k) = true) : whereF l p = 1 := by
  unfold whereF
  rw [if_pos]
  rw [List.any_eq_true]
  exact ⟨k, List.mem_range.2 hk, h⟩
theorem whereF_off {l : List Pt} {p : Pt} (h : offTo l p l.length) : whereF l p = if inF l p l.length then 2 else 0 := by
  unfold whereF
  rw [if_neg]
  rw [List.any_eq_true]
  rintro ⟨k, hk, e⟩
  rw [h k (List.mem_range.1 hk)] at e
  cases e
set_option maxHeartbeats 4000000 in
theorem where_any (l : List Pt) (ao : Option Addr) (c : Nat) (p : Pt) (w : World) (hp : Pairs w ao l) (hl : l.length < 1099511627776) (hs : ∀ x ∈ l, Sm x) (hsp : Sm p) :
    Calls Tryz.prog 26 #[.slice ao l.length c, ptV p] w (Gives (.int .u8 (whereF l p)) w) := by
  have HP := Lib.hid hp
  have HS := Lib.hid hs
  have HSP := Lib.hid hsp
  clear hp hs hsp
  obtain ⟨w0, g0, e0, hg0, hz0, hk0, hb0⟩ := alloc_pt w p
  have HK0 := Lib.hid hk0
  have HB0 := Lib.hid hb0
  clear hk0 hb0
  go_enter Tryz.func26, Tryz.ntmps26
  go_wp2
  go_loopw [5, 12] (fun b i wr => ∃ k : Nat, k ≤ l.length ∧ i = .int .i64 k ∧ b = .bool (inF l p k) ∧ offTo l p k ∧ Kept w0 wr) (fun _ i _ => l.length - (intOf i).toNat)
  case atStart => exact ⟨0, Nat.zero_le _, rfl, rfl, fun i hi => by omega, by first | exact Kept.refl _ | (rw [← e0]; exact Kept.refl _)⟩
  case round =>
    clear e0
    obtain ⟨k, hk, rfl, rfl, hoff, hkw⟩ := hrel
    have HOFF := Lib.hid hoff
    have HKW := Lib.hid hkw
    clear hoff hkw
    by_cases hlt : k < l.length
    · go_wp2_with fail
      refine (edge_any l ao c k _ (HP.out.kept (HK0.out.trans HKW.out)) hlt hl).mono ?_
      rintro e x1 ⟨rfl, hk1⟩
      obtain ⟨y1, z1, k1, e1, e2, hg1, hb1, hf1, hk2, hb2, hz1⟩ := new_sg x1 (edgeF l k)
      have HM := Lib.hid (edgeF_mem hlt)
      have HK1 := Lib.hid ((HKW.out.trans hk1).trans hk2)
      have HB1 := Lib.hid hb2
      have HB2 := Lib.hid (HB0.out.kept HK1.out)
      clear hk1 hk2
      obtain ⟨a0, a1, a2, a3⟩ := hb1
      obtain ⟨q0, q1, q2, q3⟩ := hb2
      obtain ⟨q4, q5⟩ := HB2.out
      go_wp2_with fail
      clear e1 e2 a0 a1 a2 a3 q0 q1 q2 q3 q4 q5 hf1
      refine (on_any p (edgeF l k) _ HSP.out (HS.out _ HM.out.1) (HS.out _ HM.out.2)).mono ?_
      rintro e x2 ⟨rfl, hk3⟩
      have HK2 := Lib.hid (HK1.out.trans hk3)
      have HB3 := Lib.hid (HB1.out.kept hk3)
      have HB4 := Lib.hid (HB2.out.kept hk3)
      clear hk3
      cases ho : onB p (edgeF l k)
      · have HO : Hid (offTo l p (k + 1)) := Lib.hid fun i hi => by
          by_cases e : i = k
          · subst e; exact ho
          · exact HOFF.out i (by omega)
        clear ho
        obtain ⟨q0, q1, q2, q3⟩ := HB3.out
        obtain ⟨E, hE⟩ : ∃ E, edgeF l k = E := ⟨_, rfl⟩
        have HE := Lib.hid hE
        rw [hE] at q0 q1 q2 q3
        clear hE
        go_upto_region 8 with fail
        go_cut [8, 9] (fun s8 s9 wx => ∃ (x y : Nat), s8 = .pointer (some ⟨x, 0, none⟩) ∧ s9 = .pointer (some ⟨y, 0, none⟩) ∧ PtsAt x2 E.1 E.2 x y wx)
        case first =>
          have hlt1 := lt_of_cell q0
          have hAB := pts_ab x2 E.1 E.2
          have hBA := pts_ba x2 E.1 E.2
          obtain ⟨g, hg⟩ : ∃ g, x2.heap.size = g := ⟨_, rfl⟩
          rw [hg] at hAB hBA hlt1
          have HAB := Lib.hid hAB
          have HBA := Lib.hid hBA
          have n1 : ¬ k1 = g := by omega
          have n2 : ¬ g = k1 := by omega
          have n3 : ¬ k1 = g + 1 := by omega
          have n4 : ¬ g + 1 = k1 := by omega
          clear hAB hBA
          have hz2 := lt_of_cell q0
          go_region_held3 (fun X => X.cell? ⟨k1, 0, none⟩ = some (.int .i64 E.1.1) ∧ X.cell? ⟨k1, 1, none⟩ = some (.int .i64 E.1.2) ∧ X.cell? ⟨k1, 2, none⟩ = some (.int .i64 E.2.1) ∧ X.cell? ⟨k1, 3, none⟩ = some (.int .i64 E.2.2)) (go_keep) (fail)
          all_goals
            go_wp2
            go_meet
            first
              | exact ⟨_, _, rfl, rfl, HAB.out⟩
              | exact ⟨_, _, rfl, rfl, HBA.out⟩
        case rest =>
          clear q0 q1 q2 q3
          obtain ⟨x, y, rfl, rfl, hpt⟩ := hcut
          have HPT := Lib.hid hpt
          have HK3 := Lib.hid (HK2.out.trans hpt.kept)
          have HB5 := Lib.hid (HB4.out.kept hpt.kept)
          have HX : Hid (w0.heap.size ≤ x ∧ w0.heap.size ≤ y ∧ g0 ≠ x ∧ g0 ≠ y) := Lib.hid (by have := hpt.hx; have := hpt.hy; have := HK2.out.size; omega)
          obtain ⟨q0, q1⟩ := hpt.bx
          obtain ⟨q2, q3⟩ := hpt.by_
          obtain ⟨q4, q5⟩ := HB5.out
          have f0 := hpt.fx
          have f1 := hpt.fy
          have hne := hpt.ne
          have hne2 : ¬ y = x := fun h => hne h.symm
          clear hpt
          obtain ⟨A, B⟩ := E
          simp only [] at q0 q1 q2 q3
          by_cases hsw : B.2 < A.2
          ·
            have HIN : Hid (inF l p (k + 1) = if (decide (B.2 ≤ p.2) && decide (p.2 < A.2) && decide (0 < turnZ B A p)) then !inF l p k else inF l p k) := Lib.hid (by rw [inF_succ, HE.out, hcB_order]; simp only [hsw, if_true])
            have HSM : Hid (Sm B ∧ Sm A) := Lib.hid (by have := HM.out; rw [HE.out] at this; exact ⟨HS.out _ this.2, HS.out _ this.1⟩)
            obtain ⟨v1, ev1, hkv1, hpp1, -, -, -, -⟩ := put_pt (g := x) (W := w0) HX.out.1 HK3.out B
            have hx1 : PtBox v1 x B := by rw [← ev1]; exact HPT.out.bx.put _ _
            have hy1 := hpp1 y _ (Ne.symm HPT.out.ne) HPT.out.by_
            have hz1 := hpp1 g0 _ HX.out.2.2.1 HB5.out
            have g0f : ∀ o, v1.frozen? ⟨y, o, none⟩ = false := fun o => by rw [← ev1, World.frozen?_setCell, World.frozen?_setCell]; exact HPT.out.fy o
            obtain ⟨v2, ev2, hkv2, hpp2, -, -, -, -⟩ := put_pt (g := y) (W := w0) HX.out.2.1 hkv1 A
            have hy2 : PtBox v2 y A := by rw [← ev2]; exact hy1.put _ _
            have hx2 := hpp2 x _ HPT.out.ne hx1
            have hz2 := hpp2 g0 _ HX.out.2.2.2 hz1
            have HK4 := Lib.hid hkv2
            have HBX := Lib.hid hx2
            have HBY := Lib.hid hy2
            have HBP := Lib.hid hz2
            obtain ⟨r0, r1⟩ := hx2
            obtain ⟨r2, r3⟩ := hy2
            obtain ⟨r4, r5⟩ := hz2
            obtain ⟨t0, t1⟩ := hx1
            obtain ⟨t2, t3⟩ := hy1
            clear hkv1 hkv2 hpp1 hpp2 hz1
            by_cases d1 : B.2 ≤ p.2
            ·
              by_cases d2 : p.2 < A.2
              ·
                go_wp2_with fail
                clear q0 q1 q2 q3 q4 q5 f0 f1 ev1 ev2 r0 r1 r2 r3 r4 r5 t0 t1 t2 t3 g0f
                refine (turn_any B A p _ HSM.out.1 HSM.out.2 HSP.out).mono ?_
                rintro e x3 ⟨rfl, hk5⟩
                have HK5 := Lib.hid (HK4.out.trans hk5)
                clear hk5
                by_cases d3 : 0 < turnZ B A p
                ·
                  go_wp2
                  go_roundw
                  case rel => exact ⟨k + 1, by omega, by go_num, by rw [HIN.out]; simp [d1, d2, d3], HO.out, HK5.out⟩
                  case measure => simp [intOf]; omega
                ·
                  go_wp2
                  go_roundw
                  case rel => exact ⟨k + 1, by omega, by go_num, by rw [HIN.out]; simp [d1, d2, d3], HO.out, HK5.out⟩
                  case measure => simp [intOf]; omega
              ·
                go_wp2
                go_roundw
                case rel => exact ⟨k + 1, by omega, by go_num, by rw [HIN.out]; simp [d2], HO.out, HK4.out⟩
                case measure => simp [intOf]; omega
            ·
              go_wp2
              go_roundw
              case rel => exact ⟨k + 1, by omega, by go_num, by rw [HIN.out]; simp [d1], HO.out, HK4.out⟩
              case measure => simp [intOf]; omega
          ·
            have HIN : Hid (inF l p (k + 1) = if (decide (A.2 ≤ p.2) && decide (p.2 < B.2) && decide (0 < turnZ A B p)) then !inF l p k else inF l p k) := Lib.hid (by rw [inF_succ, HE.out, hcB_order]; simp only [hsw, if_false])
            have HSM : Hid (Sm A ∧ Sm B) := Lib.hid (by have := HM.out; rw [HE.out] at this; exact ⟨HS.out _ this.1, HS.out _ this.2⟩)
            have HK4 := Lib.hid HK3.out
            have HBX := Lib.hid HPT.out.bx
            have HBY := Lib.hid HPT.out.by_
            have HBP := HB5
            by_cases d1 : A.2 ≤ p.2
            ·
              by_cases d2 : p.2 < B.2
              ·
                go_wp2_with fail
                clear q0 q1 q2 q3 q4 q5 f0 f1
                refine (turn_any A B p _ HSM.out.1 HSM.out.2 HSP.out).mono ?_
                rintro e x3 ⟨rfl, hk5⟩
                have HK5 := Lib.hid (HK4.out.trans hk5)
                clear hk5
                by_cases d3 : 0 < turnZ A B p
                ·
                  go_wp2
                  go_roundw
                  case rel => exact ⟨k + 1, by omega, by go_num, by rw [HIN.out]; simp [d1, d2, d3], HO.out, HK5.out⟩
                  case measure => simp [intOf]; omega
                ·
                  go_wp2
                  go_roundw
                  case rel => exact ⟨k + 1, by omega, by go_num, by rw [HIN.out]; simp [d1, d2, d3], HO.out, HK5.out⟩
                  case measure => simp [intOf]; omega
              ·
                go_wp2
                go_roundw
                case rel => exact ⟨k + 1, by omega, by go_num, by rw [HIN.out]; simp [d2], HO.out, HK4.out⟩
                case measure => simp [intOf]; omega
            ·
              go_wp2
              go_roundw
              case rel => exact ⟨k + 1, by omega, by go_num, by rw [HIN.out]; simp [d1], HO.out, HK4.out⟩
              case measure => simp [intOf]; omega
      · go_wp2
        go_ret
        exact ⟨ret_int (whereF_on hlt ho).symm, HK0.out.trans HK2.out⟩
    · have hkl : k = l.length := by omega
      subst hkl
      cases hb : inF l p l.length
      · go_wp2
        go_ret
        exact ⟨ret_int (by rw [whereF_off HOFF.out, hb]; rfl), HK0.out.trans HKW.out⟩
      · go_wp2
        go_ret
        exact ⟨ret_int (by rw [whereF_off HOFF.out, hb]; rfl), HK0.out.trans HKW.out⟩
end Go.Proofs.YtlglfcdobbocnaaGreat
