/- Lists of points of one's own; plane.doubled, area, Area2, Where. -/
import Derived.Test.YtlglfcdobbocnaaGreatWk
import Derived.Lib.AppendZerosOnto
import Derived.Lib.SlicesCompact
import Derived.Lib.SliceRun
set_option maxRecDepth 100000
namespace Go.Proofs.YtlglfcdobbocnaaGreat
open Go Go.Proofs Go.RowKit
attribute [local go_sem] Oper.semAt_some
theorem info25 : (Tryz.prog.info? 25).map (fun i => (i.zero, i.size, i.bytes)) = some (some (.agg #[.int .i64 0, .int .i64 0]), 2, 16) := by kernel_rfl
/-- Points of the call's own. -/
abbrev OwnP (X : World) (base : Nat) (v : Value) (l : List Pt) : Prop := OwnG X base 25 2 pairC v l
theorem append_pt {ops : Array Oper} {rest : List Oper} {o : Oper} {a : Act} {Q : Exit → Act → World → Prop} (w : World) (hg : o.guard = none) (s x : Operand)
    (ho : o.op = .call { callee := .builtin .append, args := #[s, x], argTypes := #[22, 22] }) (base : Nat) (v : Value) (l : List Pt) (hs : a.eval s = v) (hown : OwnP w base v l)
    (g : Nat) (y : Pt) (hx : a.eval x = .slice (some ⟨g, 0, none⟩) 1 1) (hc : w.cell? ⟨g, 0, none⟩ = some (.int .i64 y.1) ∧ w.cell? ⟨g, 1, none⟩ = some (.int .i64 y.2)) (hl : l.length + 1 < 1099511627776) (hbase : base ≤ w.heap.size)
    (h : ∀ ra rc w', OwnP w' base (.slice ra (l.length + 1) rc) (l ++ [y]) → w.grownBy w' v.ownBlock → (∀ j, (Value.slice ra (l.length + 1) rc).ownBlock = some j → v.ownBlock = some j ∨ j = w.heap.size) → wpList Tryz.prog ops Q rest (a.put o.dst (.slice ra (l.length + 1) rc)) w') :
    wpList Tryz.prog ops Q (o :: rest) a w :=
  append_one Tryz.underlying22 info25 rfl (by omega) (by omega) pairC_len pairC_one w hg s x ho base v l hs hown g y hx (fun j u hu => by
    match j, hu with
    | 0, hu => simp [pairC] at hu; subst hu; exact hc.1
    | 1, hu => simp [pairC] at hu; subst hu; exact hc.2
    | j + 2, hu => simp [pairC] at hu) hl hbase h
theorem OwnG.pts {X : World} {base : Nat} {v : Value} {l : List Pt} (h : OwnP X base v l) : ∃ ao c, v = .slice ao l.length c ∧ Pairs X ao l := by
  rcases h.slice pairC_len with ⟨rfl, rfl⟩ | ⟨g, c, rfl, -, -, -, -, hc⟩
  · exact ⟨none, 0, rfl, Pairs.nil _ _⟩
  · exact ⟨_, c, rfl, fun i hi => ⟨g, 0, rfl, by simpa using hc i hi 0 _ rfl, by simpa using hc i hi 1 _ rfl⟩⟩
/-- What a call hands back that makes a list of points. -/
def MakesP (l : List Pt) (w : World) (e : Ending) (w' : World) : Prop := ∃ v, e = .returned v ∧ OwnP w' w.heap.size v l ∧ Kept w w'
set_option maxHeartbeats 2000000 in
theorem doubled_any (l : List Pt) (ao : Option Addr) (c : Nat) (w : World) (hp : Pairs w ao l) (hl : l.length < 100000) (hs : ∀ x ∈ l, Sm x) : Calls Tryz.prog 44 #[.slice ao l.length c] w (MakesP (l.map dP) w) := by
  have HP := Lib.hid hp
  have HS := Lib.hid hs
  clear hp hs
  go_enter Tryz.func44, Tryz.ntmps44
  go_wp2
  go_loopw [3, 8] (fun v i wr => ∃ k : Nat, k ≤ l.length ∧ i = .int .i64 k ∧ OwnP wr w.heap.size v ((l.take k).map dP) ∧ Kept w wr) (fun _ i _ => l.length - (intOf i).toNat)
  case atStart => exact ⟨0, Nat.zero_le _, rfl, by simpa using OwnG.nil _ _ _ _ _, Kept.refl _⟩
  case round =>
    obtain ⟨k, hk, rfl, hov, hkw⟩ := hrel
    have HOV := Lib.hid hov
    have HKW := Lib.hid hkw
    clear hov hkw
    by_cases hlt : k < l.length
    · obtain ⟨b, off, rfl, c0, c1⟩ := (HP.out.kept HKW.out) k hlt
      have hbl := lt_of_cell c0
      obtain ⟨x, hx⟩ : ∃ x, l[k] = x := ⟨_, rfl⟩
      have HXS : Hid (Sm x) := Lib.hid (by rw [← hx]; exact HS.out _ (List.getElem_mem hlt))
      have HTK : Hid ((l.take (k + 1)).map dP = (l.take k).map dP ++ [dP x]) := Lib.hid (by rw [List.take_succ_eq_append_getElem hlt, hx]; simp)
      have HLEN : Hid (((l.take k).map dP).length = k) := Lib.hid (by simp; omega)
      rw [hx] at c0 c1
      clear hx
      have hsm := HXS.out
      unfold Sm at hsm
      obtain ⟨hsm1, hsm2, hsm3, hsm4⟩ := hsm
      obtain ⟨y1, z1, k1, e1, e2, hg1, hb1, hf1, hk2, hb2, hz1⟩ := new_pt wr x
      have HK3 := Lib.hid (HKW.out.trans hk2)
      have HOV3 := Lib.hid (OwnG.kept HOV.out hk2)
      clear hk2
      obtain ⟨a0, a1⟩ := hb1
      obtain ⟨q0, q1⟩ := hb2
      go_wp2_with (first | (at_builtin; refine append_pt _ rfl _ _ rfl w.heap.size _ _ rfl (OwnG.kept HOV3.out ((Kept.refl _).alloc _)) _ (dP x) rfl ⟨by simp [go_sem, dP, ← hz1], by simp [go_sem, dP, ← hz1]⟩ (by rw [HLEN.out]; omega) (by have := HK3.out.size; simp; omega) ?_; intro ra rc w6 hown6 hg6 hlies6; have HO6 := Lib.hid hown6; have HG6 := Lib.hid hg6; clear hown6 hg6 hlies6) | fail)
      clear e1 e2 a0 a1 q0 q1 c0 c1
      go_wp2
      go_roundw
      case rel => exact ⟨k + 1, by omega, by go_num, by rw [HTK.out]; have h := HO6.out; rw [HLEN.out] at h; exact h, Kept.grown (HK3.out.alloc _) HG6.out (fun r e => (HOV3.out.lt r e).1)⟩
      case measure => simp [intOf]; omega
    · have hkl : k = l.length := by omega
      subst hkl
      rw [List.take_length] at HOV
      go_wp2
      go_ret
      exact ⟨_, rfl, HOV.out, HKW.out⟩
/-- The part of a doubled area of the edge from a corner. -/
def areaTo (l : List Pt) (k : Nat) : Int := ((List.range k).map fun i => crossP (edgeF l i).1 (edgeF l i).2).sum
/-- plane.Area2. -/
def area2F (l : List Pt) : Int := if 400 < l.length ∨ ¬ l.all okB = true then 0 else areaTo l l.length
theorem areaTo_succ (l : List Pt) (k : Nat) : areaTo l (k + 1) = areaTo l k + crossP (edgeF l k).1 (edgeF l k).2 := by
  unfold areaTo
  rw [List.range_succ, List.map_append, List.sum_append]
  simp
theorem crossP_bound {a b : Pt} (ha : okB a = true) (hb : okB b = true) : -100000000 ≤ crossP a b ∧ crossP a b ≤ 100000000 ∧ -100000000 ≤ a.1 * b.2 ∧ a.1 * b.2 ≤ 100000000 ∧ -100000000 ≤ b.1 * a.2 ∧ b.1 * a.2 ≤ 100000000 := by
  unfold okB at ha hb
  simp at ha hb
  unfold crossP
  have m1 := Int.mul_nonneg ha.1.1.1 hb.1.2
  have m2 := Int.mul_nonneg hb.1.1.1 ha.1.2
  have n1 := Int.mul_le_mul ha.1.1.2 hb.2 hb.1.2 (by omega)
  have n2 := Int.mul_le_mul hb.1.1.2 ha.2 ha.1.2 (by omega)
  omega
theorem areaTo_bound {l : List Pt} (h : ∀ x ∈ l, okB x = true) : ∀ k, k ≤ l.length → -(100000000 * (k : Int)) ≤ areaTo l k ∧ areaTo l k ≤ 100000000 * (k : Int) := by
  intro k
  induction k with
  | zero => intro _; unfold areaTo; simp
  | succ k ih =>
    intro hk
    rw [areaTo_succ]
    have := ih (by omega)
    have hm := edgeF_mem (l := l) (i := k) (by omega)
    have := crossP_bound (h _ hm.1) (h _ hm.2)
    push_cast
    omega
set_option maxHeartbeats 2000000 in
theorem area_any (l : List Pt) (ao : Option Addr) (c : Nat) (w : World) (hp : Pairs w ao l) (hl : l.length ≤ 400) (hs : ∀ x ∈ l, okB x = true) : Calls Tryz.prog 38 #[.slice ao l.length c] w (Gives (.int .i64 (areaTo l l.length)) w) := by
  have HP := Lib.hid hp
  have HS := Lib.hid hs
  have HBD := Lib.hid (areaTo_bound hs)
  clear hp hs
  go_enter Tryz.func38, Tryz.ntmps38
  go_wp2
  go_loopw [3, 9] (fun v i wr => ∃ k : Nat, k ≤ l.length ∧ i = .int .i64 k ∧ v = .int .i64 (areaTo l k) ∧ Kept w wr) (fun _ i _ => l.length - (intOf i).toNat)
  case atStart => exact ⟨0, Nat.zero_le _, rfl, rfl, Kept.refl _⟩
  case round =>
    obtain ⟨k, hk, rfl, rfl, hkw⟩ := hrel
    have HKW := Lib.hid hkw
    clear hkw
    by_cases hlt : k < l.length
    · have hpk := HP.out.kept HKW.out
      obtain ⟨b, off, rfl, c0, c1⟩ := hpk k hlt
      obtain ⟨j, hj⟩ : ∃ j, (k + 1) % l.length = j := ⟨_, rfl⟩
      have hjl : j < l.length := by rw [← hj]; exact Nat.mod_lt _ (by omega)
      have HE := Lib.hid (edgeF_eq hlt hjl hj)
      obtain ⟨d0, d1⟩ := hpk.at_ hjl
      have hm : ((k : Int) + 1).tmod l.length = (j : Int) := by
        rw [← hj]
        exact (Int.ofNat_tmod (k + 1) l.length).symm
      have hne : l ≠ [] := fun h => by rw [h] at hlt; simp at hlt
      have hw1 : IntKind.i64.wrap ((k : Int) + 1) = (k : Int) + 1 := IntWalk.i64_in _ (by omega)
      clear hj hpk
      obtain ⟨x, hx⟩ : ∃ x, l[k] = x := ⟨_, rfl⟩
      obtain ⟨y, hy⟩ : ∃ y, l[j] = y := ⟨_, rfl⟩
      have hxs : okB x = true := by rw [← hx]; exact HS.out _ (List.getElem_mem hlt)
      have hys : okB y = true := by rw [← hy]; exact HS.out _ (List.getElem_mem hjl)
      have hbd := crossP_bound hxs hys
      obtain ⟨b1, b2, b3, b4, b5, b6⟩ := hbd
      unfold crossP at b1 b2
      have HSUCC : Hid (areaTo l (k + 1) = areaTo l k + (x.1 * y.2 - y.1 * x.2)) := Lib.hid (by rw [areaTo_succ, HE.out, hx, hy]; rfl)
      have hb0 := HBD.out k hk
      obtain ⟨t, ht⟩ : ∃ t, areaTo l k = t := ⟨_, rfl⟩
      rw [ht] at hb0 HSUCC ⊢
      clear ht hxs hys
      rw [hx] at c0 c1
      rw [hy] at d0 d1
      clear hx hy
      obtain ⟨y1, z1, k1, e1, e2, hg1, ha1, hf1, hk2, hb2, hz1⟩ := new_pt wr x
      obtain ⟨y2, z2, k2, e3, e4, hg2, ha2, hf2, hk3, hb3, hz2⟩ := new_pt z1 y
      obtain rfl : k2 = k1 + 1 := by omega
      have HK3 := Lib.hid ((HKW.out.trans hk2).trans hk3)
      have d0 := hk2.cell d0
      have d1 := hk2.cell d1
      have hbl := lt_of_cell c0
      have hbl2 := lt_of_cell d0
      obtain ⟨p0, p1⟩ := hb2.kept hk3
      obtain ⟨p2, p3⟩ := hb3
      obtain ⟨a0, a1⟩ := ha1
      obtain ⟨a2, a3⟩ := ha2
      clear hk2 hk3
      go_wp2
      clear e1 e2 e3 e4 a0 a1 a2 a3 p0 p1 p2 p3 c0 c1 d0 d1
      go_roundw
      case rel => exact ⟨k + 1, by omega, by go_num, by rw [HSUCC.out], HK3.out⟩
      case measure => simp [intOf]; omega
    · have hkl : k = l.length := by omega
      subst hkl
      go_wp2
      go_ret
      exact ⟨rfl, HKW.out⟩
set_option maxHeartbeats 1000000 in
theorem Area2_any (l : List Pt) (ao : Option Addr) (c : Nat) (w : World) (hp : Pairs w ao l) (hl : l.length < 1099511627776) : Calls Tryz.prog 14 #[.slice ao l.length c] w (Gives (.int .i64 (area2F l)) w) := by
  have HP := Lib.hid hp
  clear hp
  by_cases h1 : 400 < l.length
  · have HR : Hid (area2F l = 0) := Lib.hid (by unfold area2F; rw [if_pos (.inl h1)])
    have h1' : (400 : Int) < l.length := by omega
    clear h1
    go_enter Tryz.func14, Tryz.ntmps14
    go_wp2
    go_ret
    exact ⟨ret_int HR.out.symm, Kept.refl _⟩
  have h1' : ¬ (400 : Int) < l.length := by omega
  have H1 := Lib.hid h1
  clear h1
  go_enter Tryz.func14, Tryz.ntmps14
  go_wp2_with fail
  refine (rightAll_any l ao c w (by omega) HP.out).mono ?_
  rintro e w1 ⟨rfl, hk1⟩
  have HK1 := Lib.hid hk1
  clear hk1
  cases h3 : l.all okB
  · have HR : Hid (area2F l = 0) := Lib.hid (by unfold area2F; rw [if_pos (.inr (by rw [h3]; decide))])
    clear h3
    go_wp2
    go_ret
    exact ⟨ret_int HR.out.symm, HK1.out⟩
  · have HR : Hid (area2F l = areaTo l l.length) := Lib.hid (by unfold area2F; rw [if_neg]; rintro (h | h); exact H1.out h; exact h h3)
    have HS : Hid (∀ x ∈ l, okB x = true) := Lib.hid (List.all_eq_true.1 h3)
    clear h3
    go_wp2_with fail
    refine (area_any l ao c w1 (HP.out.kept HK1.out) (by omega) HS.out).mono ?_
    rintro e w2 ⟨rfl, hk2⟩
    have HK2 := Lib.hid (HK1.out.trans hk2)
    clear hk2
    go_wp2
    go_ret
    exact ⟨ret_int HR.out.symm, HK2.out⟩
theorem poly_ok {l : List Pt} (h : polyF l = 0) : 3 ≤ l.length ∧ l.length ≤ 200 ∧ (∀ x ∈ l, okB x = true) ∧ l.Nodup ∧ pairsOk l = true := by
  unfold polyF at h
  by_cases h1 : 200 < l.length
  · rw [if_pos h1] at h; cases h
  rw [if_neg h1] at h
  by_cases h2 : l.length < 3 ∨ ¬ l.all okB = true
  · rw [if_pos h2] at h; cases h
  rw [if_neg h2] at h
  by_cases h3 : ¬ l.Nodup
  · rw [if_pos h3] at h; cases h
  rw [if_neg h3] at h
  by_cases h4 : pairsOk l = true
  · exact ⟨by omega, by omega, List.all_eq_true.1 (Classical.byContradiction fun k => h2 (.inr k)), Classical.byContradiction h3, h4⟩
  · rw [if_neg h4] at h; cases h
set_option maxHeartbeats 400000 in
theorem Where_any (l : List Pt) (ao : Option Addr) (c : Nat) (p : Pt) (w : World) (hp : Pairs w ao l) (hl : l.length < 1099511627776) : Calls Tryz.prog 7 #[.slice ao l.length c, ptV p] w (Gives (.int .u8 (WhereF l p)) w) := by
  have HP := Lib.hid hp
  clear hp
  obtain ⟨z, hz⟩ : ∃ z, polyF l = z := ⟨_, rfl⟩
  obtain ⟨x, hx⟩ : ∃ x, okB p = x := ⟨_, rfl⟩
  have HR : Hid (WhereF l p = if z ≠ 0 ∨ x = false then 0 else whereF l p) := Lib.hid (by unfold WhereF; rw [hz, hx])
  have Hz := Lib.hid hz
  have Hx := Lib.hid hx
  clear hz hx
  obtain ⟨r, hr⟩ : ∃ r, WhereF l p = r := ⟨_, rfl⟩
  rw [hr] at HR ⊢
  clear hr
  obtain ⟨w0, g0, e0, hg0, hz0, hk0, hb0⟩ := alloc_pt w p
  have HK0 := Lib.hid (hk0)
  have HB0_0 := Lib.hid hb0
  clear hk0 hb0
  obtain ⟨q00, q01⟩ := HB0_0.out
  go_enter Tryz.func7, Tryz.ntmps7
  go_wp2_with fail
  clear q00 q01
  clear e0
  refine (checkPoly_any l ao c _ (HP.out.kept HK0.out) hl).mono ?_
  rintro e x1 ⟨rfl, hk⟩
  have HB0_1 := Lib.hid (HB0_0.out.kept hk)
  have HK1 := Lib.hid (Kept.trans HK0.out hk)
  clear hk
  rw [Hz.out]
  obtain ⟨q00, q01⟩ := HB0_1.out
  by_cases c0 : z = 0
  ·
    subst c0
    go_wp2_with fail
    clear q00 q01
    refine (right_any p _).mono ?_
    rintro e x2 ⟨rfl, hk⟩
    have HB0_2 := Lib.hid (HB0_1.out.kept hk)
    have HK2 := Lib.hid (Kept.trans HK1.out hk)
    clear hk
    rw [Hx.out]
    obtain ⟨q00, q01⟩ := HB0_2.out
    cases x
    ·
      go_wp2
      all_goals (go_ret; exact ⟨ret_int (by rw [HR.out]; simp), HK2.out⟩)
    ·
      have HOK := Lib.hid (poly_ok Hz.out)
      go_wp2_with fail
      clear q00 q01
      refine (where_any l ao c p _ (HP.out.kept HK2.out) hl (fun x hx => Sm.of_ok (HOK.out.2.2.1 x hx)) (Sm.of_ok Hx.out)).mono ?_
      rintro e x3 ⟨rfl, hk⟩
      have HB0_3 := Lib.hid (HB0_2.out.kept hk)
      have HK3 := Lib.hid (Kept.trans HK2.out hk)
      clear hk
      obtain ⟨q00, q01⟩ := HB0_3.out
      go_wp2
      all_goals (go_ret; exact ⟨ret_int (by rw [HR.out]; simp), HK3.out⟩)
  ·
    have c1 : (z != 0) = true := by simp [c0]
    go_wp2
    all_goals (go_ret; exact ⟨ret_int (by rw [HR.out, if_pos (.inl c0)]), HK1.out⟩)
end Go.Proofs.YtlglfcdobbocnaaGreat
