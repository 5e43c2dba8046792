/- giornatatop.mapped. -/
import Derived.Test.YtlglfcdobbocnaaGreatYe
set_option maxRecDepth 100000
namespace Go.Proofs.YtlglfcdobbocnaaGreat
open Go Go.Proofs Go.RowKit
attribute [local go_sem] Oper.semAt_some
/-- A map put into a new variable. -/
theorem new_map (X : World) (vp ve : Value) (f : Int) : ∃ w2 w3 g, X.alloc (.cells #[.slice none 0 0, .slice none 0 0, .int .i64 0] 29) = w2 ∧
    ((w2.setCell ⟨g, 0, none⟩ vp).setCell ⟨g, 1, none⟩ ve).setCell ⟨g, 2, none⟩ (.int .i64 f) = w3 ∧ X.heap.size = g ∧ MBox w2 g (.slice none 0 0) (.slice none 0 0) 0 ∧ Kept X w3 ∧ MBox w3 g vp ve f := by
  have hb : MBox (X.alloc (.cells #[.slice none 0 0, .slice none 0 0, .int .i64 0] 29)) X.heap.size (.slice none 0 0) (.slice none 0 0) 0 := ⟨by simp [go_sem], by simp [go_sem], by simp [go_sem], fun o => frozen_alloc _ _ _ o⟩
  exact ⟨_, _, X.heap.size, rfl, rfl, rfl, hb, kept3 ((Kept.refl X).alloc _) (Nat.le_refl _) _ _ _, ((hb.put0 _).put1 _).put2 _⟩
theorem sq_area : area2F sqW = 32 := by decide +kernel
theorem sq_seg (X : World) : Sgs (X.alloc (.cells #[.int .i64 0, .int .i64 2, .int .i64 4, .int .i64 2] 45)) (some ⟨X.heap.size, 0, none⟩) sqL := fun i hi => by
  refine ⟨X.heap.size, 0, rfl, ?_⟩
  match i, hi with
  | 0, _ => exact ⟨by simp [go_sem, sqL], by simp [go_sem, sqL], by simp [go_sem, sqL], by simp [go_sem, sqL]⟩
set_option maxHeartbeats 4000000 in
theorem mapped_any (w : World) : Calls Tryz.prog 4 #[] w (Gives (.bool true) w) := by
  go_enter Tryz.func4, Tryz.ntmps4
  go_wp2_with fail
  refine (square_any w).mono ?_
  rintro e w1 ⟨ao, c, rfl, hp, hk1⟩
  have HP := Lib.hid hp
  have HK1 := Lib.hid hk1
  clear hp hk1
  obtain ⟨w2, hw2⟩ : ∃ w2, w1.alloc (.cells #[.int .i64 0, .int .i64 2, .int .i64 4, .int .i64 2] 45) = w2 := ⟨_, rfl⟩
  obtain ⟨sb, hsb⟩ : ∃ sb, w1.heap.size = sb := ⟨_, rfl⟩
  have HS : Hid (Sgs w2 (some ⟨sb, 0, none⟩) sqL) := Lib.hid (by rw [← hw2, ← hsb]; exact sq_seg w1)
  have HK2 : Hid (Kept w1 w2) := Lib.hid (by rw [← hw2]; exact (Kept.refl _).alloc _)
  go_wp2_with fail
  have hb := build_any sqW sqL ao (some ⟨sb, 0, none⟩) c 1 w2 (HP.out.kept HK2.out) HS.out (by decide) (by decide)
  refine hb.mono ?_
  rintro e w3 ⟨ap, np, cp, ae, ne, ce, mf, er, rfl, hk3, hiff, hout⟩
  obtain rfl : er = 0 := hiff.2 sq_built
  obtain ⟨Ed, hmd, hmo⟩ := hout rfl
  rw [sq_pts, sq_edg] at hmo
  have hmf : mf = 2 := by rw [hmo.many]; exact congrArg Int.ofNat sq_many
  subst hmf
  clear hb hiff hout hmd hw2
  obtain ⟨u2, z1, mb, e1, e3, hg1, hb1, hk4, hb2⟩ := new_map w3 (.slice ap np cp) (.slice ae ne ce) 2
  have HMO := Lib.hid (hmo.kept hk4)
  have HK4 := Lib.hid (HK1.out.trans (HK2.out.trans (hk3.trans hk4)))
  have HB2 := Lib.hid hb2
  have r0 := hb1.c0
  have r1 := hb1.c1
  have r2 := hb1.c2
  have rf0 := hb1.warm 0
  have rf1 := hb1.warm 1
  have rf2 := hb1.warm 2
  have rl := lt_of_cell r0
  clear hk3 hmo hk4 hb2 hb1
  go_upto_region 2 with fail
  clear e1 e3 r0 r1 r2 rf0 rf1 rf2 rl
  have m0 := HB2.out.c0
  have m1 := HB2.out.c1
  have m2 := HB2.out.c2
  have ml := lt_of_cell m0
  go_wp2_with fail
  refine (AreaM_any sqP sqE Ed ap np cp ae ne ce 2 1 z1 HMO.out (by decide) (by decide)).mono ?_
  rintro e z2 ⟨rfl, hk5⟩
  rw [show areaF sqP sqE ((1 : Nat) : Int) = 16 from sq_area1]
  have HK5 := Lib.hid (HK4.out.trans hk5)
  have HMO2 := Lib.hid (HMO.out.kept hk5)
  have m0 := hk5.cell m0
  have m1 := hk5.cell m1
  have m2 := hk5.cell m2
  have ml := lt_of_cell m0
  clear hk5
  go_wp2_with fail
  refine (AreaM_any sqP sqE Ed ap np cp ae ne ce 2 2 z2 HMO2.out (by decide) (by decide)).mono ?_
  rintro e z3 ⟨rfl, hk6⟩
  rw [show areaF sqP sqE ((2 : Nat) : Int) = 16 from sq_area2]
  have HK6 := Lib.hid (HK5.out.trans hk6)
  have m2 := hk6.cell m2
  have ml := lt_of_cell m2
  clear hk6 m0 m1
  go_wp2_with fail
  refine (square_any z3).mono ?_
  rintro e z4 ⟨ao2, c2, rfl, hp2, hk7⟩
  have HP2 := Lib.hid hp2
  have HK7 := Lib.hid (HK6.out.trans hk7)
  clear hp2 hk7 m2 ml
  go_wp2_with fail
  refine (Area2_any sqW ao2 c2 z4 HP2.out (by decide)).mono ?_
  rintro e z5 ⟨rfl, hk8⟩
  rw [sq_area]
  have HK8 := Lib.hid (HK7.out.trans hk8)
  clear hk8
  go_wp2
  go_ret
  exact ⟨rfl, HK8.out⟩
end Go.Proofs.YtlglfcdobbocnaaGreat
