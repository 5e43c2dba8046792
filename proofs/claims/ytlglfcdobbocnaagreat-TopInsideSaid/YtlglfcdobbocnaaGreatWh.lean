/- plane.edge, rightAll, Turn. -/
import Derived.Test.YtlglfcdobbocnaaGreatWg
set_option maxRecDepth 100000
namespace Go.Proofs.YtlglfcdobbocnaaGreat
open Go Go.Proofs Go.RowKit
attribute [local go_sem] Oper.semAt_some
theorem Pairs.at_ {w : World} {b off : Nat} {l : List Pt} (h : Pairs w (some ⟨b, off, none⟩) l) {i : Nat} (hi : i < l.length) : w.cell? ⟨b, off + i * 2, none⟩ = some (.int .i64 l[i].1) ∧ w.cell? ⟨b, off + i * 2 + 1, none⟩ = some (.int .i64 l[i].2) := by
  obtain ⟨b', off', e, c, d⟩ := h i hi
  cases e
  exact ⟨c, d⟩
theorem edgeF_eq {l : List Pt} {i j : Nat} (hi : i < l.length) (hj : j < l.length) (h : (i + 1) % l.length = j) : edgeF l i = (l[i], l[j]) := by
  unfold edgeF
  rw [h, List.getD_eq_getElem?_getD, List.getD_eq_getElem?_getD, List.getElem?_eq_getElem hi, List.getElem?_eq_getElem hj]
  rfl
set_option maxHeartbeats 1000000 in
theorem edge_any (l : List Pt) (ao : Option Addr) (c i : Nat) (w : World) (hp : Pairs w ao l) (hi : i < l.length) (hl : l.length < 1099511627776) :
    Calls Tryz.prog 32 #[.slice ao l.length c, .int .i64 i] w (Gives (sgV (edgeF l i)) w) := by
  obtain ⟨b, off, rfl, c0, c1⟩ := hp i hi
  obtain ⟨j, hj⟩ : ∃ j, (i + 1) % l.length = j := ⟨_, rfl⟩
  have hjl : j < l.length := by rw [← hj]; exact Nat.mod_lt _ (by omega)
  have HE := Lib.hid (edgeF_eq hi hjl hj)
  have hd := hp.at_ hjl
  obtain ⟨d0, d1⟩ := hd
  have hm : ((i : Int) + 1).tmod l.length = (j : Int) := by
    rw [← hj]
    exact (Int.ofNat_tmod (i + 1) l.length).symm
  have hw1 : IntKind.i64.wrap ((i : Int) + 1) = (i : Int) + 1 := IntWalk.i64_in _ (by omega)
  have hne : l ≠ [] := fun h => by rw [h] at hi; simp at hi
  have hbl := lt_of_cell c0
  clear hj hp
  obtain ⟨x, hx⟩ : ∃ x, l[i] = x := ⟨_, rfl⟩
  obtain ⟨y, hy⟩ : ∃ y, l[j] = y := ⟨_, rfl⟩
  rw [hx] at c0 c1 HE
  rw [hy] at d0 d1 HE
  clear hx hy
  obtain ⟨w0, g0, e0, hg0, hz0, hk0, hb0⟩ := alloc_sg w ((0, 0), (0, 0))
  have hf0 : ∀ o, w0.frozen? ⟨g0, o, none⟩ = false := fun o => by rw [← e0, ← hg0]; exact frozen_alloc _ _ _ o
  have c0 := hk0.cell c0
  have c1 := hk0.cell c1
  have d0 := hk0.cell d0
  have d1 := hk0.cell d1
  have hbl' := lt_of_cell c0
  have HB := Lib.hid hb0
  have HK := Lib.hid hk0
  clear hk0
  obtain ⟨q0, q1, q2, q3⟩ := hb0
  simp only [] at e0
  go_enter Tryz.func32, Tryz.ntmps32
  go_wp2
  refine region_tail 13 (by kernel_rfl) (by kernel_rfl) ?_
  simp only [List.take_succ_cons, List.take_zero, List.drop_succ_cons, List.drop_zero]
  repeat still_step
  refine wpStill_nil ?_
  go_wp2
  have hs : SgBox (((((w0.setCell ⟨g0, 0, none⟩ (.int .i64 x.1)).setCell ⟨g0, 1, none⟩ (.int .i64 x.2)).setCell ⟨g0, 2, none⟩ (.int .i64 y.1)).setCell ⟨g0, 3, none⟩ (.int .i64 y.2))).drew g0 (x, y) := (HB.out.put (x, y)).kept (Kept.refl _).drew
  refine bodyPost_ret (results_cell rfl _ _ ⟨g0, 0, none⟩ rfl _ (load45 hs)) rfl ?_
  have hg : w.heap.size ≤ g0 := Nat.le_of_eq hg0
  exact ⟨by rw [HE.out], ((((HK.out.setCell (p := ⟨g0, 0, none⟩) hg _).setCell (p := ⟨g0, 1, none⟩) hg _).setCell (p := ⟨g0, 2, none⟩) hg _).setCell (p := ⟨g0, 3, none⟩) hg _).drew⟩
set_option maxHeartbeats 800000 in
/-- slices.IndexFunc at pairs: whatever function of a pair is handed in, if it answers p wherever nothing of w has turned. -/
theorem indexFuncP_any (l : List (Int × Int)) (ao : Option Addr) (c g : Nat) (caps : Array Value) (p : Int × Int → Bool) (w : World) (hl : l.length < 1152921504606846976) (hp : Pairs w ao l)
    (hf : ∀ a b W, Kept w W → Calls Tryz.prog g (#[.agg #[.int .i64 a, .int .i64 b]] ++ caps) W (Gives (.bool (p (a, b))) W)) (hg : ∀ args W, (callFunc g args).run Tryz.prog W = .ok (.enter g args) W) :
    Calls Tryz.prog 93 #[.slice ao l.length c, .func (.func g) #[] caps] w (IdxPost p l w) := by
  have HF := Lib.hid hf
  clear hf
  go_enter Tryz.func93, Tryz.ntmps93
  go_wp2
  go_loopw [8] (fun i wr => ∃ k : Nat, k ≤ l.length ∧ i = .int .i64 k ∧ (l.take k).any p = false ∧ Kept w wr) (fun i _ => l.length - (intOf i).toNat)
  case atStart => exact ⟨0, Nat.zero_le _, rfl, by simp, Kept.refl w⟩
  case round =>
    obtain ⟨k, hk, rfl, hn, hkw⟩ := hrel
    have HN := Lib.hid hn
    clear hn
    by_cases hlt : k < l.length
    · obtain ⟨B, off, rfl, hc, hd⟩ := (hp.kept hkw) k hlt
      have HP := Lib.hid hp
      clear hp
      have HKW := Lib.hid hkw
      clear hkw
      cases hpk : p l[k]
      all_goals
        go_wp2_with fail
        refine (HF.out _ _ _ HKW.out).mono ?_
        rintro e w1 ⟨rfl, hk1⟩
        have HK1 := Lib.hid (HKW.out.trans hk1)
        clear hk1
      · go_wp2
        go_roundw
        case rel => exact ⟨k + 1, by omega, by go_num, (any_take_succ p l k hlt HN.out).trans hpk, HK1.out⟩
        case measure => simp [intOf]; omega
      · go_wp2
        go_ret
        exact ⟨k, rfl, by rw [any_of_get p l k hlt hpk]; simp, HK1.out⟩
    · have HP := Lib.hid hp
      clear hp
      have HKW := Lib.hid hkw
      clear hkw
      go_wp2
      go_ret
      refine ⟨-1, rfl, ?_, HKW.out⟩
      rw [List.take_of_length_le (by omega)] at HN
      rw [HN.out]; rfl
set_option maxHeartbeats 400000 in
theorem containsFuncP_any (l : List (Int × Int)) (ao : Option Addr) (c g : Nat) (caps : Array Value) (p : Int × Int → Bool) (w : World) (hl : l.length < 1152921504606846976) (hp : Pairs w ao l)
    (hf : ∀ a b W, Kept w W → Calls Tryz.prog g (#[.agg #[.int .i64 a, .int .i64 b]] ++ caps) W (Gives (.bool (p (a, b))) W)) (hg : ∀ args W, (callFunc g args).run Tryz.prog W = .ok (.enter g args) W) :
    Calls Tryz.prog 68 #[.slice ao l.length c, .func (.func g) #[] caps] w (Gives (.bool (l.any p)) w) := by
  have HF := Lib.hid hf
  clear hf
  go_enter Tryz.func68, Tryz.ntmps68
  go_wp2_with fail
  refine (indexFuncP_any l ao c g caps p w hl hp HF.out hg).mono ?_
  rintro e w1 ⟨i, rfl, hi, hk⟩
  have HI := Lib.hid hi
  have HK := Lib.hid hk
  clear hi hk hg
  go_wp2
  go_ret
  exact ⟨ret_bool HI.out, HK.out⟩

set_option maxHeartbeats 400000 in
theorem right1_any (p : Pt) (w : World) : Calls Tryz.prog 69 #[ptV p] w (Gives (.bool (!okB p)) w) := by
  obtain ⟨w0, g0, e0, hg0, hz0, hk0, hb0⟩ := alloc_pt w p
  have HK0 := Lib.hid hk0
  obtain ⟨q0, q1⟩ := hb0
  clear hk0
  go_enter Tryz.func69, Tryz.ntmps69
  go_wp2_with fail
  refine (right_any p _).mono ?_
  rintro e x1 ⟨rfl, hk⟩
  have HK1 := Lib.hid (HK0.out.trans hk)
  clear hk e0 q0 q1
  go_wp2
  go_ret
  exact ⟨rfl, HK1.out⟩
set_option maxHeartbeats 400000 in
theorem rightAll_any (l : List Pt) (ao : Option Addr) (c : Nat) (w : World) (hl : l.length < 1152921504606846976) (hp : Pairs w ao l) :
    Calls Tryz.prog 30 #[.slice ao l.length c] w (Gives (.bool (l.all okB)) w) := by
  have HB : Hid ((!l.any fun x => !okB x) = l.all okB) := Lib.hid (by rw [List.not_any_eq_all_not]; simp)
  go_enter Tryz.func30, Tryz.ntmps30
  go_wp2_with fail
  refine (containsFuncP_any l ao c 69 #[] (fun x => !okB x) w hl hp (fun a b W _ => right1_any (a, b) W) (fun args W => rfl)).mono ?_
  rintro e w1 ⟨rfl, hk⟩
  have HK := Lib.hid hk
  clear hk
  go_wp2
  go_ret
  exact ⟨ret_bool HB.out, HK.out⟩
end Go.Proofs.YtlglfcdobbocnaaGreat
