/- The walk that begins with a dart; its doubled area. -/
import Derived.Test.YtlglfcdobbocnaaGreatXc
set_option maxRecDepth 100000
namespace Go.Proofs.YtlglfcdobbocnaaGreat
open Go Go.Proofs Go.RowKit
attribute [local go_sem] Oper.semAt_some
theorem info3 : (Tryz.prog.info? 3).map (fun i => (i.zero, i.size, i.bytes)) = some (some (.int .i64 0), 1, 8) := by kernel_rfl
theorem append_int {ops : Array Oper} {rest : List Oper} {o : Oper} {a : Act} {Q : Exit → Act → World → Prop} (w : World) (hg : o.guard = none) (s x : Operand)
    (ho : o.op = .call { callee := .builtin .append, args := #[s, x], argTypes := #[36, 36] }) (base : Nat) (v : Value) (l : List Int) (hs : a.eval s = v) (hown : OwnN w base v l)
    (g : Nat) (y : Int) (hx : a.eval x = .slice (some ⟨g, 0, none⟩) 1 1) (hc : w.cell? ⟨g, 0, none⟩ = some (.int .i64 y)) (hl : l.length + 1 < 1099511627776) (hbase : base ≤ w.heap.size)
    (h : ∀ ra rc w', OwnN w' base (.slice ra (l.length + 1) rc) (l ++ [y]) → w.grownBy w' v.ownBlock → (∀ j, (Value.slice ra (l.length + 1) rc).ownBlock = some j → v.ownBlock = some j ∨ j = w.heap.size) → wpList Tryz.prog ops Q rest (a.put o.dst (.slice ra (l.length + 1) rc)) w') :
    wpList Tryz.prog ops Q (o :: rest) a w :=
  append_one Tryz.underlying36 info3 rfl (by omega) (by omega) intC_len intC_one w hg s x ho base v l hs hown g y hx (fun j u hu => by
    match j, hu with
    | 0, hu => simp [intC] at hu; subst hu; exact hc
    | j + 1, hu => simp [intC] at hu) hl hbase h
theorem own_one (w : World) (x : Int) : OwnN (w.alloc (.cells #[.int .i64 x] 3)) w.heap.size (.slice (some ⟨w.heap.size, 0, none⟩) 1 1) [x] := by
  refine ⟨by simp [intC], .inr ⟨w.heap.size, 1, _, rfl, Nat.le_refl _, heap_alloc_new w _, by simp, ?_, by simp, ?_⟩⟩
  · decide
  · simp [intC]
/-- What a call hands back that makes a list of numbers. -/
def MakesN (l : List Int) (w : World) (e : Ending) (w' : World) : Prop := ∃ v, e = .returned v ∧ OwnN w' w.heap.size v l ∧ Kept w w'
theorem OwnG.ints {X : World} {base : Nat} {v : Value} {l : List Int} (h : OwnN X base v l) : ∃ ao c, v = .slice ao l.length c ∧ Ints X ao l ∧ ∀ x, ao = some x → base ≤ x.block := by
  rcases h.slice intC_len with ⟨rfl, rfl⟩ | ⟨g, c, rfl, -, hb, -, -, hc⟩
  · exact ⟨none, 0, rfl, Ints.nil _ _, fun x e => by cases e⟩
  · exact ⟨_, c, rfl, fun i hi => ⟨g, 0, rfl, by simpa using hc i hi 0 _ rfl⟩, fun x e => by cases e; exact hb⟩
def lenV : Value → Nat
  | .slice _ n _ => n
  | _ => 0
theorem OwnG.lenV {X : World} {base : Nat} {v : Value} {l : List Int} (h : OwnN X base v l) : lenV v = l.length := by
  obtain ⟨ao, c, rfl, -, -⟩ := h.ints
  rfl
/-- Edges between points, not too many. -/
structure Ends (P : List Pt) (E : List (Nat × Nat)) : Prop where
  few : E.length ≤ 400
  tail : ∀ d, d < 2 * E.length → dTail E d < P.length ∧ dHead E d < P.length
set_option maxHeartbeats 1000000 in
theorem walk_any (g d : Nat) (P : List Pt) (E : List (Nat × Nat)) (w : World) (hW : WebC w g P E) (he : Ends P E) (hd : d < 2 * E.length) :
    Calls Tryz.prog 36 #[.pointer (some ⟨g, 0, none⟩), .int .i64 d] w (MakesN (natL (orbE P E d)) w) := by
  have HW := Lib.hid hW
  have hI := inj_nxt P E
  obtain ⟨k, k0, kn, hk, hmin, hor⟩ := (hI.orb hd).ex
  have HOR : Hid (orbE P E d = (List.range k).map (it (nxtF P E) d)) := Lib.hid hor
  have HMIN := Lib.hid hmin
  have HK := Lib.hid hk
  have HLT : Hid (∀ i, it (nxtF P E) d i < 2 * E.length) := Lib.hid (fun i => hI.it_lt hd i)
  have HE := Lib.hid he
  have hkl : k ≤ 800 := by have := he.few; omega
  clear hW hI hor hmin hk he
  obtain ⟨w0, hw0⟩ : ∃ w0, w.alloc (.cells #[.int .i64 d] 3) = w0 := ⟨_, rfl⟩
  have HK0 : Hid (Kept w w0) := Lib.hid (by rw [← hw0]; exact (Kept.refl w).alloc _)
  have HO0 : Hid (OwnN w0 w.heap.size (.slice (some ⟨w.heap.size, 0, none⟩) 1 1) [(d : Int)]) := Lib.hid (by rw [← hw0]; exact own_one w d)
  obtain ⟨b, hb⟩ : ∃ b, w.heap.size = b := ⟨_, rfl⟩
  rw [hb] at HO0
  go_enter Tryz.func36, Tryz.ntmps36
  go_wp2_with fail
  refine (next_any g d P E w0 (HW.out.kept HK0.out) hd (HE.out.tail d hd).2 HE.out.few).mono ?_
  rintro e w1 ⟨rfl, hk1⟩
  have HK1 := Lib.hid (HK0.out.trans hk1)
  have HO1 := Lib.hid (OwnG.kept HO0.out hk1)
  clear hk1 hw0
  go_wp2
  go_loopw [5, 6] (fun v xv wr => ∃ i : Nat, 1 ≤ i ∧ i ≤ k ∧ xv = .int .i64 (it (nxtF P E) d i : Nat) ∧ OwnN wr b v (natL ((List.range i).map (it (nxtF P E) d))) ∧ Kept w wr) (fun v _ _ => k - lenV v)
  case atStart => exact ⟨1, Nat.le_refl _, k0, rfl, HO1.out, HK1.out⟩
  case round =>
    clear HO1 HO0 HK1
    obtain ⟨i, hi1, hik, rfl, hov, hkw⟩ := hrel
    have HOV := Lib.hid hov
    have HKW := Lib.hid hkw
    clear hov hkw
    by_cases hlt : i < k
    · have hne : (((it (nxtF P E) d i : Nat) : Int) != (d : Int)) = true := by
        have := HMIN.out i (by omega) hlt
        simpa using fun e => this (by omega)
      have hxi := HLT.out i
      have hlen : (natL ((List.range i).map (it (nxtF P E) d))).length = i := by rw [natL_len]; simp
      have HSUC : Hid (natL ((List.range (i + 1)).map (it (nxtF P E) d)) = natL ((List.range i).map (it (nxtF P E) d)) ++ [((it (nxtF P E) d i : Nat) : Int)]) := Lib.hid (by unfold natL; rw [List.range_succ]; simp)
      have HNX : Hid (nxtF P E (it (nxtF P E) d i) = it (nxtF P E) d (i + 1)) := Lib.hid rfl
      have HLV : Hid (lenV u5 = i) := Lib.hid (by rw [HOV.out.lenV]; exact hlen)
      have HNX2 : Hid (nxtF P E (it (nxtF P E) d i) = it (nxtF P E) d (i + 1)) := Lib.hid rfl
      generalize hy : it (nxtF P E) d (i + 1) = y at HNX
      generalize it (nxtF P E) d i = x at hne hxi HSUC HNX HNX2
      generalize natL ((List.range i).map (it (nxtF P E) d)) = M at HOV hlen HSUC
      have HBZ : Hid (b ≤ wr.heap.size) := Lib.hid (by rw [← hb]; exact HKW.out.size)
      go_wp2_with (first | (at_builtin; refine append_int _ rfl _ _ rfl b _ _ rfl (OwnG.kept HOV.out ((Kept.refl _).alloc _)) _ (x : Int) rfl (by simp [go_sem]) (by omega) (by have := HBZ.out; simp; omega) ?_; intro ra rc w6 hown6 hg6 hlies6; have HO6 := Lib.hid hown6; have HG6 : Hid (Kept w w6) := Lib.hid (Kept.grown (HKW.out.alloc _) hg6 (fun r e => by rw [hb]; exact (HOV.out.lt r e).1)); clear hown6 hg6 hlies6) | fail)
      refine (next_any g x P E w6 (HW.out.kept HG6.out) hxi (HE.out.tail x hxi).2 HE.out.few).mono ?_
      rintro e w7 ⟨rfl, hk7⟩
      have HK7 := Lib.hid (HG6.out.trans hk7)
      have HO7 := Lib.hid (OwnG.kept HO6.out hk7)
      rw [HNX.out]
      clear hk7 hne
      go_wp2
      go_roundw
      case rel => exact ⟨i + 1, by omega, by omega, by rw [← HNX.out, HNX2.out], by rw [HSUC.out]; have h := HO7.out; rw [hlen] at h; exact h, HK7.out⟩
      case measure => have := HLV.out; show k - (i + 1) < k - lenV u5; omega
    · have hik : i = k := by omega
      subst hik
      have HOV2 : Hid (OwnN wr b u5 (natL (orbE P E d))) := Lib.hid (by rw [HOR.out]; exact HOV.out)
      have hne : (((it (nxtF P E) d i : Nat) : Int) != (d : Int)) = false := by rw [HK.out]; simp
      clear HOV
      rw [HK.out] at hne ⊢
      go_wp2
      go_ret
      exact ⟨_, rfl, by rw [hb]; exact HOV2.out, HKW.out⟩
/-- The part of a dart of a doubled area. -/
def crD (P : List Pt) (E : List (Nat × Nat)) (d : Nat) : Int := crossP (dFrom (eS P E) d) (dTo (eS P E) d)
set_option maxHeartbeats 1000000 in
theorem crossW_any (g d : Nat) (P : List Pt) (E : List (Nat × Nat)) (w : World) (hW : WebC w g P E) (he : Ends P E) (hok : ∀ x ∈ P, okB x = true) (hd : d < 2 * E.length) :
    Calls Tryz.prog 73 #[.pointer (some ⟨g, 0, none⟩), .int .i64 d] w (Gives (.int .i64 (crD P E d)) w) := by
  have ht := he.tail d hd
  obtain ⟨b, off, c, a0, -, -, a3, a4⟩ := hW.dart hd
  obtain ⟨b1, off1, c1, p0, p1, p2⟩ := hW.pt ht.1
  obtain ⟨b1', off1', c1', p0', q1, q2⟩ := hW.pt ht.2
  rw [p0] at p0'
  simp only [Option.some.injEq, Value.slice.injEq, Addr.mk.injEq] at p0'
  obtain ⟨⟨rfl, rfl, -⟩, -, rfl⟩ := p0'
  have o1 := hok _ (getD_mem (0, 0) ht.1)
  have o2 := hok _ (getD_mem (0, 0) ht.2)
  have HR : Hid (crD P E d = crossP (P.getD (dTail E d) (0, 0)) (P.getD (dHead E d) (0, 0))) := Lib.hid (by unfold crD; rw [dFrom_tail, dTo_head])
  generalize P.getD (dTail E d) (0, 0) = x at p1 p2 o1 HR
  generalize P.getD (dHead E d) (0, 0) = y at q1 q2 o2 HR
  generalize dTail E d = t at a3 p1 p2 ht
  generalize dHead E d = h at a4 q1 q2 ht
  generalize hN : 2 * E.length = N at a0 hd
  generalize hn : P.length = n at p0 ht
  have hb := lt_of_cell a3
  have hb1 := lt_of_cell p1
  have hg := lt_of_cell a0
  have HBD := Lib.hid (crossP_bound o1 o2)
  obtain ⟨ht1, ht2⟩ := ht
  clear hW he hok o1 o2
  go_enter Tryz.func73, Tryz.ntmps73
  go_upto_region 1 with fail
  go_cut [5, 6] (fun s8 s9 wx => ∃ (u v : Nat), s8 = .pointer (some ⟨u, 0, none⟩) ∧ s9 = .pointer (some ⟨v, 0, none⟩) ∧ PtsAt w x y u v wx)
  case first =>
    have hAB := pts_ab w x y
    have hBA := pts_ba w x y
    obtain ⟨z, hz⟩ : ∃ z, w.heap.size = z := ⟨_, rfl⟩
    rw [hz] at hAB hBA hb hb1 hg
    have HAB := Lib.hid hAB
    have HBA := Lib.hid hBA
    have n1 : ¬ b = z := by omega
    have n2 : ¬ z = b := by omega
    have n3 : ¬ b = z + 1 := by omega
    have n4 : ¬ z + 1 = b := by omega
    have n5 : ¬ b1 = z := by omega
    have n6 : ¬ z = b1 := by omega
    have n7 : ¬ b1 = z + 1 := by omega
    have n8 : ¬ z + 1 = b1 := by omega
    have n9 : ¬ g = z := by omega
    have n10 : ¬ z = g := by omega
    have n11 : ¬ g = z + 1 := by omega
    have n12 : ¬ z + 1 = g := by omega
    clear hAB hBA
    go_region_held3 (fun X => X.cell? ⟨g, 0, none⟩ = some (.slice (some ⟨b1, off1, none⟩) n c1) ∧ X.cell? ⟨g, 3, none⟩ = some (.slice (some ⟨b, off, none⟩) N c) ∧ X.cell? ⟨b, off + d * 5 + 3, none⟩ = some (.int .i64 t) ∧ X.cell? ⟨b, off + d * 5 + 4, none⟩ = some (.int .i64 h) ∧ X.cell? ⟨b1, off1 + t * 2, none⟩ = some (.int .i64 x.1) ∧ X.cell? ⟨b1, off1 + t * 2 + 1, none⟩ = some (.int .i64 x.2) ∧ X.cell? ⟨b1, off1 + h * 2, none⟩ = some (.int .i64 y.1) ∧ X.cell? ⟨b1, off1 + h * 2 + 1, none⟩ = some (.int .i64 y.2)) (go_keep) (fail)
    all_goals
      go_wp2
      go_meet
      first
        | exact ⟨_, _, rfl, rfl, HAB.out⟩
        | exact ⟨_, _, rfl, rfl, HBA.out⟩
  case rest =>
    clear a0 a3 a4 p0 p1 p2 q1 q2
    obtain ⟨u, v, rfl, rfl, hpt⟩ := hcut
    have HK := Lib.hid hpt.kept
    obtain ⟨q0, q1⟩ := hpt.bx
    obtain ⟨q2, q3⟩ := hpt.by_
    obtain ⟨h1, h2, h3, h4, h5, h6⟩ := HBD.out
    unfold crossP at h1 h2
    go_wp2
    go_ret
    exact ⟨ret_int (by rw [HR.out]; rfl), HK.out⟩
theorem areaW_cons (P : List Pt) (E : List (Nat × Nat)) (l : List Nat) (k : Nat) (hk : k < l.length) : areaW P E (l.take (k + 1)) = areaW P E (l.take k) + crD P E l[k] := by
  unfold areaW crD
  rw [List.take_succ_eq_append_getElem hk, List.map_append, List.sum_append]
  simp
theorem areaW_bound {P : List Pt} {E : List (Nat × Nat)} (he : Ends P E) (hok : ∀ x ∈ P, okB x = true) {l : List Nat} (hl : ∀ x ∈ l, x < 2 * E.length) : ∀ k, k ≤ l.length → -(100000000 * (k : Int)) ≤ areaW P E (l.take k) ∧ areaW P E (l.take k) ≤ 100000000 * (k : Int) := by
  intro k
  induction k with
  | zero => intro _; simp [areaW]
  | succ k ih =>
    intro hk
    rw [areaW_cons P E l k (by omega)]
    have h1 := ih (by omega)
    have hd := hl _ (List.getElem_mem (show k < l.length by omega))
    have ht := he.tail _ hd
    have := crossP_bound (hok _ (getD_mem (0, 0) ht.1)) (hok _ (getD_mem (0, 0) ht.2))
    unfold crD
    rw [dFrom_tail, dTo_head]
    push_cast
    omega
set_option maxHeartbeats 1000000 in
theorem areaW_any (g : Nat) (P : List Pt) (E : List (Nat × Nat)) (l : List Nat) (ao : Option Addr) (n c : Nat) (w : World) (hn : (natL l).length = n) (hW : WebC w g P E) (he : Ends P E) (hok : ∀ x ∈ P, okB x = true) (hi : Ints w ao (natL l)) (hl : ∀ x ∈ l, x < 2 * E.length) (hll : l.length ≤ 800) :
    Calls Tryz.prog 35 #[.pointer (some ⟨g, 0, none⟩), .slice ao n c] w (Gives (.int .i64 (areaW P E l)) w) := by
  have HW := Lib.hid hW
  have HE := Lib.hid he
  have HOK := Lib.hid hok
  have HI := Lib.hid hi
  have HL := Lib.hid hl
  have HBD := Lib.hid (areaW_bound he hok hl)
  have HN : Hid (l.length = n) := Lib.hid (by rw [← hn, natL_len])
  have hn8 : n ≤ 800 := by rw [← HN.out]; exact hll
  clear hn hll
  clear hW he hok hi hl
  go_enter Tryz.func35, Tryz.ntmps35
  go_wp2
  go_loopw [5, 10] (fun nv iv wr => ∃ k : Nat, k ≤ n ∧ iv = .int .i64 k ∧ nv = .int .i64 (areaW P E (l.take k)) ∧ Kept w wr) (fun _ iv _ => n - (intOf iv).toNat)
  case atStart => exact ⟨0, Nat.zero_le _, rfl, rfl, Kept.refl w⟩
  case round =>
    obtain ⟨k, hk, rfl, rfl, hkw⟩ := hrel
    have HKW := Lib.hid hkw
    clear hkw
    by_cases hlt : k < n
    · obtain ⟨B, off, rfl, hc⟩ := (HI.out.kept HKW.out) k (by rw [natL_len, HN.out]; exact hlt)
      have HLT : Hid (0 < l.length - k) := Lib.hid (by have := HN.out; omega)
      rw [natL_get (by have := HLT.out; omega)] at hc
      have hd := HL.out _ (List.getElem_mem (show k < l.length by have := HLT.out; omega))
      have HSUC := Lib.hid (areaW_cons P E l k (by have := HLT.out; omega))
      have hb0 := HBD.out k (by have := HLT.out; omega)
      have hb1 := HBD.out (k + 1) (by have := HLT.out; omega)
      rw [HSUC.out] at hb1
      generalize areaW P E (l.take k) = s at hb0 hb1 HSUC
      generalize l[k]'(by have := HLT.out; omega) = d at hc hd hb1 HSUC
      have HC := Lib.hid hc
      go_wp2_with fail
      refine (crossW_any g d P E _ (HW.out.kept HKW.out) HE.out HOK.out hd).mono ?_
      rintro e w1 ⟨rfl, hk1⟩
      have HK1 := Lib.hid (HKW.out.trans hk1)
      clear hk1 hc
      generalize crD P E d = t at hb1 HSUC ⊢
      go_wp2
      go_roundw
      case rel => exact ⟨k + 1, by omega, by go_num, by rw [HSUC.out], HK1.out⟩
      case measure => simp [intOf]; omega
    · have hkl : k = n := by omega
      have HT : Hid (l.take k = l) := Lib.hid (List.take_of_length_le (by have := HN.out; omega))
      subst hkl
      go_wp2
      go_ret
      exact ⟨by rw [HT.out]; rfl, HKW.out⟩
end Go.Proofs.YtlglfcdobbocnaaGreat
