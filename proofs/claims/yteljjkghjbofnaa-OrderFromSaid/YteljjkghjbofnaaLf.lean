/- ref.index, ref.insert. -/
import Derived.Test.YteljjkghjbofnaaNd
set_option maxRecDepth 100000
namespace Go.Proofs.Yteljjkghjbofnaa
open Go Go.Proofs Go.RowKit
attribute [local go_sem] Oper.semAt_some

theorem step_app2J {ops : Array Oper} {o : Oper} {a : Act} {w : World} {K : Act → World → Prop} {Q : Exit → Act → World → Prop} {E : Prop}
    (hg : o.guard = none) (s x : Operand) (hop : o.op = Op.call { callee := Callee.builtin Builtin.append, args := #[s, x], argTypes := #[22, 22] })
    (base : Nat) (v : Value) (l : List (Int × Int)) (hown : OwnG w base 83 2 pairC v l) (hs : a.eval s = v) (y : Int × Int) (g c : Nat) (hx : a.eval x = .slice (some ⟨g, 0, none⟩) 1 c)
    (hc : w.cell? ⟨g, 0, none⟩ = some (.int .i64 y.1) ∧ w.cell? ⟨g, 1, none⟩ = some (.int .i64 y.2)) (hl : l.length + 1 < 1099511627776) (hbase : base ≤ w.heap.size)
    (hK : ∀ v' w', OwnG w' base 83 2 pairC v' (l ++ [y]) → w.grownBy w' v.ownBlock → K (a.put o.dst v') w') :
    if Region.wanted o (yielded ops a.tmps) = true then Oper.wp Try.prog o a w K Q else E := by
  have hw : Region.wanted o (yielded ops a.tmps) = true := by simp [Region.wanted, hg]
  rw [if_pos hw]
  obtain ⟨i0, hi, hz0, hz1, hz2⟩ := info_parts info83
  obtain ⟨v', w', hrun, r1, r2, _⟩ := run_append_own (P := Try.prog) (w := w) base 22 o.type 83 i0 _ 2 16 Try.underlying22 hi hz0 hz1 hz2 rfl (by decide) v l.length _ hown ⟨g, 0, none⟩ 1 c (pairC y) rfl (fun j u hu => by
      match j, hu with
      | 0, hu => simp [pairC] at hu; subst hu; exact hc.1
      | 1, hu => simp [pairC] at hu; subst hu; exact hc.2
      | j + 2, hu => simp [pairC] at hu) (pairC_one y) (by unfold maxLen; omega) (by omega) hbase
  unfold Oper.wp
  simp [execOp, hop, resolve, invoke, builtin, hs, hx, hrun, Result.andThen]
  refine hK v' w' ?_ r2
  have h := r1
  unfold OwnG
  rw [List.length_append, List.flatMap_append]
  simpa using h

theorem idxF_hit {l : List Int} {n : Int} {k : Nat} (hk : k < l.length) (h : l[k] = n) : idxF n (l.drop k) k = k := by
  rw [List.drop_eq_getElem_cons hk]
  unfold idxF
  rw [if_pos h]
theorem idxF_miss {l : List Int} {n : Int} {k : Nat} (hk : k < l.length) (h : ¬ l[k] = n) : idxF n (l.drop k) k = idxF n (l.drop (k + 1)) (k + 1) := by
  rw [List.drop_eq_getElem_cons hk]
  conv => lhs; unfold idxF
  rw [if_neg h]
set_option maxHeartbeats 400000 in
theorem Rindex_any (l : List Int) (lo : Option Addr) (c : Nat) (n : Int) (w : World) (hl : Ints w lo l) (hll : l.length < 1152921504606846976) :
    Calls Try.prog 139 #[.slice lo l.length c, .int .i64 n] w (Tells (.int .i64 (idxR l n)) w) := by
  have HL := Lib.hid hl
  clear hl
  go_enter Try.func139, Try.ntmps139
  go_wp2
  go_loop [5] (fun i => ∃ k : Nat, k ≤ l.length ∧ i = .int .i64 k ∧ idxR l n = idxF n (l.drop k) k) (fun i => l.length - (intOf i).toNat)
  case atStart => exact ⟨0, Nat.zero_le _, rfl, rfl⟩
  case round =>
    obtain ⟨k, hk, rfl, hix⟩ := hrel
    have HIX := Lib.hid hix
    clear hix
    by_cases hlt : k < l.length
    · obtain ⟨B, off, rfl, hcx⟩ := HL.out k hlt
      by_cases hx : l[k] = n
      · have HR : Hid (idxR l n = (k : Int)) := Lib.hid (HIX.out.trans (idxF_hit hlt hx))
        have e1 : (l[k] == n) = true := by simp [hx]
        generalize l[k] = y at *
        clear hx
        go_wp2
        go_ret
        exact ⟨by rw [HR.out]; rfl, rfl⟩
      · have HR : Hid (idxR l n = idxF n (l.drop (k + 1)) (k + 1)) := Lib.hid (HIX.out.trans (idxF_miss hlt hx))
        have e1 : (l[k] == n) = false := by simp [hx]
        generalize l[k] = y at *
        clear hx
        go_wp2
        go_round
        case measure => simp [intOf] <;> omega
        case rel => exact ⟨k + 1, by omega, by go_num, HR.out⟩
    · obtain rfl : k = l.length := by omega
      have HR : Hid (idxR l n = -1) := Lib.hid (HIX.out.trans (by rw [List.drop_length]; rfl))
      go_wp2
      go_ret
      exact ⟨by rw [HR.out]; rfl, rfl⟩

theorem drop_at {l : List (Int × Int)} {k : Nat} {y : Int × Int} (hy : l[k]? = some y) : l.drop k = y :: l.drop (k + 1) ∧ l.take (k + 1) = l.take k ++ [y] := by
  obtain ⟨hk, e⟩ := List.getElem?_eq_some_iff.1 hy
  exact ⟨by rw [List.drop_eq_getElem_cons hk, e], by rw [List.take_succ_eq_append_getElem hk, e]⟩
theorem Pairs.at {X : World} {ao : Option Addr} {l : List (Int × Int)} (h : Pairs X ao l) {k : Nat} (hk : k < l.length) : ∃ y : Int × Int, l[k]? = some y ∧ ∃ B off, ao = some ⟨B, off, none⟩ ∧ X.cell? ⟨B, off + k * 2, none⟩ = some (.int .i64 y.1) ∧ X.cell? ⟨B, off + k * 2 + 1, none⟩ = some (.int .i64 y.2) := by
  refine ⟨l[k], List.getElem?_eq_getElem hk, ?_⟩
  obtain ⟨B, off, e, c0, c1⟩ := h k hk
  exact ⟨B, off, e, c0, c1⟩
theorem insP_go {l : List (Int × Int)} {x y : Int × Int} {k : Nat} (hy : l[k]? = some y) (h : cmpP y x < 0) (e : insP l x = l.take k ++ insP (l.drop k) x) : insP l x = l.take (k + 1) ++ insP (l.drop (k + 1)) x := by
  obtain ⟨h1, h2⟩ := drop_at hy
  rw [e, h1, h2, List.append_assoc]
  conv => lhs; rw [insP, if_pos h]
  rfl
theorem insP_is {l : List (Int × Int)} {x : Int × Int} {k : Nat} (hy : l[k]? = some x) (e : insP l x = l.take k ++ insP (l.drop k) x) : insP l x = l := by
  obtain ⟨h1, h2⟩ := drop_at hy
  rw [e, h1]
  conv => lhs; rw [insP, if_neg (cmpP_irr x), if_pos rfl]
  rw [← h1, List.take_append_drop]
theorem insP_no {l : List (Int × Int)} {x y : Int × Int} {k : Nat} (hy : l[k]? = some y) (h1 : ¬ cmpP y x < 0) (h2 : y ≠ x) (e : insP l x = l.take k ++ insP (l.drop k) x) : insP l x = (l.take k ++ [x]) ++ l.drop k := by
  obtain ⟨h3, h4⟩ := drop_at hy
  rw [e, List.append_assoc, h3]
  conv => lhs; rw [insP, if_neg h1, if_neg h2]
  rfl
theorem insP_end {l : List (Int × Int)} {x : Int × Int} (e : insP l x = l.take l.length ++ insP (l.drop l.length) x) : insP l x = (l.take l.length ++ [x]) ++ l.drop l.length := by
  rw [e, List.drop_length]
  simp [insP]
theorem Pairs.take {X : World} {ao : Option Addr} {l : List (Int × Int)} (h : Pairs X ao l) (k : Nat) : Pairs X ao (l.take k) := fun i hi => by
  have hil : i < l.length := by rw [List.length_take] at hi; omega
  obtain ⟨B, off, e, c0, c1⟩ := h i hil
  refine ⟨B, off, e, ?_, ?_⟩
  · rw [List.getElem_take]; exact c0
  · rw [List.getElem_take]; exact c1
theorem Pairs.drop {X : World} {B off : Nat} {l : List (Int × Int)} (h : Pairs X (some ⟨B, off, none⟩) l) (k : Nat) : Pairs X (some ⟨B, off + k * 2, none⟩) (l.drop k) := fun i hi => by
  have hil : k + i < l.length := by rw [List.length_drop] at hi; omega
  obtain ⟨B', off', e, c0, c1⟩ := h (k + i) hil
  cases e
  refine ⟨B, off + k * 2, rfl, ?_, ?_⟩
  · rw [List.getElem_drop, show off + k * 2 + i * 2 = off + (k + i) * 2 by omega]; exact c0
  · rw [List.getElem_drop, show off + k * 2 + i * 2 + 1 = off + (k + i) * 2 + 1 by omega]; exact c1
theorem step_prs {ops : Array Oper} {o : Oper} {a : Act} {w : World} {K : Act → World → Prop} {Q : Exit → Act → World → Prop} {E : Prop}
    (hg : o.guard = none) (s x : Operand) (hop : o.op = Op.call { callee := Callee.builtin Builtin.append, args := #[s, x], argTypes := #[22, 22] })
    (base : Nat) (v : Value) (l : List (Int × Int)) (hown : OwnG w base 83 2 pairC v l) (hs : a.eval s = v) (y : List (Int × Int)) (yo : Option Addr) (c : Nat) (hx : a.eval x = .slice yo y.length c)
    (hp : Pairs w yo y) (hnil : yo = none → c = 0) (hlen : l.length + y.length < 1099511627776) (hbase : base ≤ w.heap.size)
    (hK : ∀ v' w', OwnG w' base 83 2 pairC v' (l ++ y) → w.grownBy w' v.ownBlock → K (a.put o.dst v') w') :
    if Region.wanted o (yielded ops a.tmps) = true then Oper.wp Try.prog o a w K Q else E := by
  have hw : Region.wanted o (yielded ops a.tmps) = true := by simp [Region.wanted, hg]
  rw [if_pos hw]
  obtain ⟨i0, hi, hz0, hz1, hz2⟩ := info_parts info83
  cases yo with
  | some ad =>
    obtain ⟨v', w', hrun, r1, r2, _⟩ := run_append_own (P := Try.prog) (w := w) base 22 o.type 83 i0 _ 2 16 Try.underlying22 hi hz0 hz1 hz2 rfl (by decide) v l.length _ hown ad y.length c (y.flatMap pairC) (flatMap_len pairC_len y) (pairs_newsA hp) (pairs_one y) (by unfold maxLen; omega) (by omega) hbase
    unfold Oper.wp
    simp [execOp, hop, resolve, invoke, builtin, hs, hx, hrun, Result.andThen]
    refine hK v' w' ?_ r2
    unfold OwnG
    rw [List.length_append, List.flatMap_append]
    exact r1
  | none =>
    obtain rfl := hnil rfl
    have hnn : y = [] := by
      cases y with
      | nil => rfl
      | cons z t => obtain ⟨b, off, e, _⟩ := hp 0 (by simp); cases e
    subst hnn
    have hrun := run_append_owned_none (P := Try.prog) w base 22 o.type 83 i0 2 Try.underlying22 hi v l.length _ hown
    unfold Oper.wp
    simp [execOp, hop, resolve, invoke, builtin, hs, hx, hrun, Result.andThen]
    exact hK v w (by rw [List.append_nil]; exact hown) ⟨rfl, rfl, rfl, Nat.le_refl _, fun _ _ _ => rfl⟩
theorem OwnG.ins {X : World} {base : Nat} {v : Value} {l : List (Int × Int)} (h : OwnG X base 83 2 pairC v l) : ∃ ao c, v = .slice ao l.length c ∧ Pairs X ao l ∧ l.length ≤ c ∧ (ao = none → c = 0) ∧ ∀ ad, ao = some ad → ∃ B off, ad = ⟨B, off, none⟩ ∧ base ≤ B := by
  obtain ⟨ao, c, e, hp, hn⟩ := h.prs
  rcases h.slice pairC_len with ⟨rfl, e'⟩ | ⟨g, c', e', h1, h2, -⟩
  · rw [e] at e'
    simp only [Value.slice.injEq] at e'
    obtain ⟨rfl, -, -⟩ := e'
    exact ⟨none, c, e, hp, by simp, hn, fun ad had => by cases had⟩
  · rw [e] at e'
    simp only [Value.slice.injEq] at e'
    obtain ⟨rfl, -, rfl⟩ := e'
    exact ⟨_, c, e, hp, h1, hn, fun ad had => by cases had; exact ⟨g, 0, rfl, h2⟩⟩
/-- What insert answers: the list l', at its old place or in new memory. -/
def InsP (l' : List (Int × Int)) (lo : Option Addr) (w : World) (e : Ending) (w' : World) : Prop :=
  ∃ ao c, e = .returned (.slice ao l'.length c) ∧ Pairs w' ao l' ∧ l'.length ≤ c ∧ (ao = none → c = 0) ∧ (∀ ad, ao = some ad → ∃ B off, ad = ⟨B, off, none⟩ ∧ (lo = some ad ∨ w.heap.size ≤ B)) ∧ Kept w w'

set_option maxHeartbeats 4000000 in
theorem Rinsert_some (l : List (Int × Int)) (B off : Nat) (c : Nat) (x1 x2 : Int) (w : World) (hl : Pairs w (some ⟨B, off, none⟩) l) (hc : l.length ≤ c) (hlen : l.length < 100000) :
    Calls Try.prog 134 #[.slice (some ⟨B, off, none⟩) l.length c, .agg #[.int .i64 x1, .int .i64 x2]] w (InsP (insP l (x1, x2)) (some ⟨B, off, none⟩) w) := by
  have HL := Lib.hid hl
  clear hl
  obtain ⟨R, hR⟩ : ∃ R, insP l (x1, x2) = R := ⟨_, rfl⟩
  have HR := Lib.hid hR
  rw [hR]
  clear hR
  go_enter Try.func134, Try.ntmps134
  go_wp2
  have hk0 : Kept w (w.alloc (.cells #[.int .i64 x1, .int .i64 x2] 83)) := (Kept.refl _).alloc _
  have hc0 : (w.alloc (.cells #[.int .i64 x1, .int .i64 x2] 83)).cell? ⟨w.heap.size, 0, none⟩ = some (.int .i64 x1) := by simp [go_sem]
  have hc1 : (w.alloc (.cells #[.int .i64 x1, .int .i64 x2] 83)).cell? ⟨w.heap.size, 1, none⟩ = some (.int .i64 x2) := by simp [go_sem]
  generalize w.alloc (.cells #[.int .i64 x1, .int .i64 x2] 83) = w0 at *
  obtain ⟨g3, hg3⟩ : ∃ g, w.heap.size = g := ⟨_, rfl⟩
  rw [hg3] at hc0 hc1 ⊢
  have HK0 := Lib.hid hk0
  have HC0 := Lib.hid hc0
  have HC1 := Lib.hid hc1
  have HG3 : Hid (w.heap.size = g3) := Lib.hid hg3
  clear hk0 hc0 hc1 hg3
  go_loopw [5] (fun i wr => ∃ k : Nat, k ≤ l.length ∧ i = .int .i64 k ∧ insP l (x1, x2) = l.take k ++ insP (l.drop k) (x1, x2) ∧ Kept w0 wr) (fun i _ => l.length - (intOf i).toNat)
  case atStart => exact ⟨0, Nat.zero_le _, rfl, by simp, Kept.refl _⟩
  case round =>
    obtain ⟨k, hk, rfl, hins, hkw⟩ := hrel
    have HKW := Lib.hid hkw
    have HIN := Lib.hid hins
    clear hkw hins
    have r0 := HKW.out.cell HC0.out
    have r1 := HKW.out.cell HC1.out
    have rb := lt_of_cell r0
    by_cases hlt : k < l.length
    case pos =>
      have HKL := Lib.hid hlt
      obtain ⟨y, hy, B', off', ead, c0, c1⟩ := (HL.out.kept (HK0.out.trans HKW.out)).at hlt
      cases ead
      have HY := Lib.hid hy
      clear hy
      obtain ⟨y1, y2⟩ := y
      simp only [] at c0 c1
      have cbl := lt_of_cell c0
      by_cases h1 : y1 < x1
      case pos =>
        have HGO : Hid (insP l (x1, x2) = l.take (k + 1) ++ insP (l.drop (k + 1)) (x1, x2)) := Lib.hid (insP_go HY.out (cmpP_lt.2 (.inl h1)) HIN.out)
        have e1 : decide (y1 < x1) = true := decide_eq_true h1
        clear h1
        go_wp2
        refine region_tail 33 (by kernel_rfl) (by kernel_rfl) ?_
        simp only [List.take_succ_cons, List.take_zero, List.drop_succ_cons, List.drop_zero]
        iterate 14
          with_reducible refine wpStill_want ?_ (fun K hK => ?_)
          · rfl
          go_simp
          refine hK _ ?_
          clear hK K
        iterate 18
          with_reducible refine wpStill_skip ?_ ?_
          · rfl
          simp only [Act.put, List.setIfInBounds_toArray, List.set_cons_zero, List.set_cons_succ]
        iterate 1
          with_reducible refine wpStill_want ?_ (fun K hK => ?_)
          · rfl
          go_simp
          refine hK _ ?_
          clear hK K
        with_reducible refine wpStill_nil ?_
        go_wp2
        go_roundw
        case measure => simp [intOf] <;> omega
        case rel => exact ⟨k + 1, HKL.out, by go_num, HGO.out, HKW.out.drew⟩
      have e1 : decide (y1 < x1) = false := decide_eq_false h1
      by_cases h2 : y1 = x1
      case neg =>
        have e2 : (y1 == x1) = false := by simp [h2]
        have HNO : Hid (R = (l.take k ++ [(x1, x2)]) ++ l.drop k) := Lib.hid (by rw [← HR.out]; exact insP_no HY.out (by rw [cmpP_lt]; simp only []; omega) (by intro h; cases h; exact h2 rfl) HIN.out)
        have HSK := Lib.hid hlt
        clear h1 h2
        go_wp2
        refine region_tail 33 (by kernel_rfl) (by kernel_rfl) ?_
        simp only [List.take_succ_cons, List.take_zero, List.drop_succ_cons, List.drop_zero]
        iterate 23
          with_reducible refine wpStill_want ?_ (fun K hK => ?_)
          · rfl
          go_simp
          refine hK _ ?_
          clear hK K
        iterate 8
          with_reducible refine wpStill_skip ?_ ?_
          · rfl
          simp only [Act.put, List.setIfInBounds_toArray, List.set_cons_zero, List.set_cons_succ]
        iterate 2
          with_reducible refine wpStill_want ?_ (fun K hK => ?_)
          · rfl
          go_simp
          refine hK _ ?_
          clear hK K
        with_reducible refine wpStill_nil ?_
        go_wp2
        refine region_tail 11 (by kernel_rfl) (by kernel_rfl) ?_
        simp only [List.take_succ_cons, List.take_zero, List.drop_succ_cons, List.drop_zero]
        iterate 11
          with_reducible refine wpStill_want ?_ (fun K hK => ?_)
          · rfl
          go_simp
          refine hK _ ?_
          clear hK K
        with_reducible refine wpStill_nil ?_
        have hck : ¬ c = k := by omega
        have hk2 : Kept wr wr.drew.drew := (Kept.refl _).drew.drew
        have HTK : Hid ((l.take k).length = k) := Lib.hid (by rw [List.length_take]; omega)
        have HPT : Hid (Pairs wr.drew.drew (some ⟨B, off, none⟩) (l.take k)) := Lib.hid (((HL.out.kept (HK0.out.trans HKW.out)).kept hk2).take k)
        go_wp2_with (first | (at_builtin; refine append_prs (wr.drew.drew.alloc (.cells #[] 83)) rfl _ _ rfl wr.drew.drew.heap.size (.slice (some ⟨wr.drew.drew.heap.size, 0, none⟩) 0 0) [] rfl (OwnE wr.drew.drew (Nat.le_refl _)) (l.take k) (some ⟨B, off, none⟩) c (by rw [HTK.out]; rfl) (HPT.out.kept ((Kept.refl _).alloc _)) (fun h => by cases h) (by rw [HTK.out]; simp; omega) (by simp) ?_; intro v4 w4 hown hg; have hk : Kept wr.drew.drew w4 := ((Kept.refl wr.drew.drew).alloc _).grown hg (fun r e => by cases e; exact Nat.le_refl _); have HO4 := Lib.hid hown; have HK4 := Lib.hid (hk2.trans hk); clear hown hg hk) | fail)
        have p0 := HK4.out.cell r0
        have p1 := HK4.out.cell r1
        have pb := lt_of_cell p0
        go_region_held3 (fun X => X.cell? ⟨g3, 0, none⟩ = some (.int .i64 x1) ∧ X.cell? ⟨g3, 1, none⟩ = some (.int .i64 x2) ∧ g3 < X.heap.size)
          (first | exact ⟨p0, p1, pb⟩ | exact ⟨z0, z1, zb⟩ | exact ⟨Z0, Z1, Zb⟩ | exact ⟨((Kept.refl w4).drew.alloc _).cell p0, ((Kept.refl w4).drew.alloc _).cell p1, lt_of_cell (((Kept.refl w4).drew.alloc _).cell p0)⟩)
          (first
            | (refine step_prs rfl (.tmp 64) (.tmp 67) rfl wr.drew.drew.heap.size v5 (l.take k ++ [(x1, x2)]) hown5 (by simp [Act.eval]) (l.drop k) (some ⟨B, off + k * 2, none⟩) (c - k) (by rw [List.length_drop]; simp [Act.eval] <;> omega) ((((HL.out.kept (HK0.out.trans HKW.out)).kept hk5)).drop k) (fun h => by cases h) (by rw [List.length_append, HTK.out, List.length_drop]; simp; omega) (by exact hk5.size) ?_; intro v6 w6 hown6 hg6; have hk6 := hk5.grown hg6 (fun r e => (hown5.lt r e).1); have Z0 := hk6.cell r0; have Z1 := hk6.cell r1; have Zb := lt_of_cell Z0)
            | (refine step_app2J rfl (.tmp 61) (.tmp 63) rfl wr.drew.drew.heap.size v4 (l.take k) (HO4.out.kept ((Kept.refl _).drew.alloc _)) (by simp [Act.eval]) (x1, x2) w4.heap.size 1 (by simp [Act.eval]) (by constructor <;> simp [go_sem]) (by rw [HTK.out]; omega) (by have := HK4.out.size; simp; omega) ?_; intro v5 w5 hown5 hg5; have hk5 : Kept wr w5 := ((HK4.out.trans ((Kept.refl _).drew.alloc _)).grown hg5 (fun r e => (HO4.out.lt r e).1)); have z0 := hk5.cell r0; have z1 := hk5.cell r1; have zb := lt_of_cell z0))
        rename_i hHeld
        clear hHeld hg5 hg6 z0 z1 zb Z0 Z1 Zb p0 p1 pb
        obtain ⟨ra, rc, rfl, hrp, hrl, hrn, hrb⟩ := hown6.ins
        rw [← HNO.out] at hrp hrl
        have hRL : R.length = ((l.take k ++ [(x1, x2)]) ++ l.drop k).length := by rw [HNO.out]
        rw [← hRL]
        have HRP := Lib.hid hrp
        have HRL := Lib.hid hrl
        have HRN := Lib.hid hrn
        have HRB := Lib.hid hrb
        have HK6 := Lib.hid hk6
        clear hrp hrl hrn hrb hk6 hown6 hown5 hk5 hRL
        go_wp2
        go_ret
        exact ⟨ra, rc, rfl, HRP.out, HRL.out, HRN.out, fun ad e => (HRB.out ad e).elim fun B h => h.elim fun off h => ⟨B, off, h.1, .inr (Nat.le_trans (HK0.out.trans HKW.out).size h.2)⟩, (HK0.out.trans HKW.out).trans HK6.out⟩
      subst h2
      have e2 : (y1 == y1) = true := by simp
      by_cases h3 : y2 < x2
      case pos =>
        have HGO : Hid (insP l (y1, x2) = l.take (k + 1) ++ insP (l.drop (k + 1)) (y1, x2)) := Lib.hid (insP_go HY.out (cmpP_lt.2 (.inr ⟨rfl, h3⟩)) HIN.out)
        have e3 : decide (y2 < x2) = true := decide_eq_true h3
        clear h1 h3
        go_wp2
        refine region_tail 33 (by kernel_rfl) (by kernel_rfl) ?_
        simp only [List.take_succ_cons, List.take_zero, List.drop_succ_cons, List.drop_zero]
        iterate 33
          with_reducible refine wpStill_want ?_ (fun K hK => ?_)
          · rfl
          go_simp
          refine hK _ ?_
          clear hK K
        with_reducible refine wpStill_nil ?_
        go_wp2
        go_roundw
        case measure => simp [intOf] <;> omega
        case rel => exact ⟨k + 1, HKL.out, by go_num, HGO.out, HKW.out.drew⟩
      have e3 : decide (y2 < x2) = false := decide_eq_false h3
      by_cases h4 : y2 = x2
      case pos =>
        subst h4
        have HIS : Hid (R = l) := Lib.hid (by rw [← HR.out]; exact insP_is HY.out HIN.out)
        have e4 : (y2 == y2) = true := by simp
        clear h1 h3
        go_wp2
        refine region_tail 33 (by kernel_rfl) (by kernel_rfl) ?_
        simp only [List.take_succ_cons, List.take_zero, List.drop_succ_cons, List.drop_zero]
        iterate 33
          with_reducible refine wpStill_want ?_ (fun K hK => ?_)
          · rfl
          go_simp
          refine hK _ ?_
          clear hK K
        with_reducible refine wpStill_nil ?_
        go_wp2
        refine region_tail 11 (by kernel_rfl) (by kernel_rfl) ?_
        simp only [List.take_succ_cons, List.take_zero, List.drop_succ_cons, List.drop_zero]
        iterate 11
          with_reducible refine wpStill_want ?_ (fun K hK => ?_)
          · rfl
          go_simp
          refine hK _ ?_
          clear hK K
        with_reducible refine wpStill_nil ?_
        go_wp2
        go_ret
        rw [HIS.out]
        exact ⟨_, c, rfl, HL.out.kept ((HK0.out.trans HKW.out).trans (Kept.refl _).drew.drew), hc, fun h => (by cases h), fun ad e => (by cases e; exact ⟨B, off, rfl, .inl rfl⟩), (HK0.out.trans HKW.out).trans (Kept.refl _).drew.drew⟩
      have e4 : (y2 == x2) = false := by simp [h4]
      have HNO : Hid (R = (l.take k ++ [(y1, x2)]) ++ l.drop k) := Lib.hid (by rw [← HR.out]; exact insP_no HY.out (by rw [cmpP_lt]; simp only []; omega) (by intro h; cases h; exact h4 rfl) HIN.out)
      clear h1 h3 h4
      go_wp2
      refine region_tail 33 (by kernel_rfl) (by kernel_rfl) ?_
      simp only [List.take_succ_cons, List.take_zero, List.drop_succ_cons, List.drop_zero]
      iterate 33
        with_reducible refine wpStill_want ?_ (fun K hK => ?_)
        · rfl
        go_simp
        refine hK _ ?_
        clear hK K
      with_reducible refine wpStill_nil ?_
      go_wp2
      refine region_tail 11 (by kernel_rfl) (by kernel_rfl) ?_
      simp only [List.take_succ_cons, List.take_zero, List.drop_succ_cons, List.drop_zero]
      iterate 11
        with_reducible refine wpStill_want ?_ (fun K hK => ?_)
        · rfl
        go_simp
        refine hK _ ?_
        clear hK K
      with_reducible refine wpStill_nil ?_
      have hck : ¬ c = k := by omega
      have hk2 : Kept wr wr.drew.drew := (Kept.refl _).drew.drew
      have HTK : Hid ((l.take k).length = k) := Lib.hid (by rw [List.length_take]; omega)
      have HPT : Hid (Pairs wr.drew.drew (some ⟨B, off, none⟩) (l.take k)) := Lib.hid (((HL.out.kept (HK0.out.trans HKW.out)).kept hk2).take k)
      go_wp2_with (first | (at_builtin; refine append_prs (wr.drew.drew.alloc (.cells #[] 83)) rfl _ _ rfl wr.drew.drew.heap.size (.slice (some ⟨wr.drew.drew.heap.size, 0, none⟩) 0 0) [] rfl (OwnE wr.drew.drew (Nat.le_refl _)) (l.take k) (some ⟨B, off, none⟩) c (by rw [HTK.out]; rfl) (HPT.out.kept ((Kept.refl _).alloc _)) (fun h => by cases h) (by rw [HTK.out]; simp; omega) (by simp) ?_; intro v4 w4 hown hg; have hk : Kept wr.drew.drew w4 := ((Kept.refl wr.drew.drew).alloc _).grown hg (fun r e => by cases e; exact Nat.le_refl _); have HO4 := Lib.hid hown; have HK4 := Lib.hid (hk2.trans hk); clear hown hg hk) | fail)
      have p0 := HK4.out.cell r0
      have p1 := HK4.out.cell r1
      have pb := lt_of_cell p0
      go_region_held3 (fun X => X.cell? ⟨g3, 0, none⟩ = some (.int .i64 y1) ∧ X.cell? ⟨g3, 1, none⟩ = some (.int .i64 x2) ∧ g3 < X.heap.size)
        (first | exact ⟨p0, p1, pb⟩ | exact ⟨z0, z1, zb⟩ | exact ⟨Z0, Z1, Zb⟩ | exact ⟨((Kept.refl w4).drew.alloc _).cell p0, ((Kept.refl w4).drew.alloc _).cell p1, lt_of_cell (((Kept.refl w4).drew.alloc _).cell p0)⟩)
        (first
          | (refine step_prs rfl (.tmp 64) (.tmp 67) rfl wr.drew.drew.heap.size v5 (l.take k ++ [(y1, x2)]) hown5 (by simp [Act.eval]) (l.drop k) (some ⟨B, off + k * 2, none⟩) (c - k) (by rw [List.length_drop]; simp [Act.eval] <;> omega) ((((HL.out.kept (HK0.out.trans HKW.out)).kept hk5)).drop k) (fun h => by cases h) (by rw [List.length_append, HTK.out, List.length_drop]; simp; omega) (by exact hk5.size) ?_; intro v6 w6 hown6 hg6; have hk6 := hk5.grown hg6 (fun r e => (hown5.lt r e).1); have Z0 := hk6.cell r0; have Z1 := hk6.cell r1; have Zb := lt_of_cell Z0)
          | (refine step_app2J rfl (.tmp 61) (.tmp 63) rfl wr.drew.drew.heap.size v4 (l.take k) (HO4.out.kept ((Kept.refl _).drew.alloc _)) (by simp [Act.eval]) (y1, x2) w4.heap.size 1 (by simp [Act.eval]) (by constructor <;> simp [go_sem]) (by rw [HTK.out]; omega) (by have := HK4.out.size; simp; omega) ?_; intro v5 w5 hown5 hg5; have hk5 : Kept wr w5 := ((HK4.out.trans ((Kept.refl _).drew.alloc _)).grown hg5 (fun r e => (HO4.out.lt r e).1)); have z0 := hk5.cell r0; have z1 := hk5.cell r1; have zb := lt_of_cell z0))
      rename_i hHeld
      clear hHeld hg5 hg6 z0 z1 zb Z0 Z1 Zb p0 p1 pb
      obtain ⟨ra, rc, rfl, hrp, hrl, hrn, hrb⟩ := hown6.ins
      rw [← HNO.out] at hrp hrl
      have hRL : R.length = ((l.take k ++ [(y1, x2)]) ++ l.drop k).length := by rw [HNO.out]
      rw [← hRL]
      have HRP := Lib.hid hrp
      have HRL := Lib.hid hrl
      have HRN := Lib.hid hrn
      have HRB := Lib.hid hrb
      have HK6 := Lib.hid hk6
      clear hrp hrl hrn hrb hk6 hown6 hown5 hk5 hRL
      go_wp2
      go_ret
      exact ⟨ra, rc, rfl, HRP.out, HRL.out, HRN.out, fun ad e => (HRB.out ad e).elim fun B h => h.elim fun off h => ⟨B, off, h.1, .inr (Nat.le_trans (HK0.out.trans HKW.out).size h.2)⟩, (HK0.out.trans HKW.out).trans HK6.out⟩
    obtain rfl : k = l.length := by omega
    have HNO : Hid (R = (l.take l.length ++ [(x1, x2)]) ++ l.drop l.length) := Lib.hid (by rw [← HR.out]; exact insP_end HIN.out)
    clear hlt
    go_wp2
    refine region_tail 33 (by kernel_rfl) (by kernel_rfl) ?_
    simp only [List.take_succ_cons, List.take_zero, List.drop_succ_cons, List.drop_zero]
    iterate 5
      with_reducible refine wpStill_want ?_ (fun K hK => ?_)
      · rfl
      go_simp
      refine hK _ ?_
      clear hK K
    iterate 28
      with_reducible refine wpStill_skip ?_ ?_
      · rfl
      simp only [Act.put, List.setIfInBounds_toArray, List.set_cons_zero, List.set_cons_succ]
    with_reducible refine wpStill_nil ?_
    go_wp2
    refine region_tail 11 (by kernel_rfl) (by kernel_rfl) ?_
    simp only [List.take_succ_cons, List.take_zero, List.drop_succ_cons, List.drop_zero]
    iterate 5
      with_reducible refine wpStill_want ?_ (fun K hK => ?_)
      · rfl
      go_simp
      refine hK _ ?_
      clear hK K
    iterate 6
      with_reducible refine wpStill_skip ?_ ?_
      · rfl
      simp only [Act.put, List.setIfInBounds_toArray, List.set_cons_zero, List.set_cons_succ]
    with_reducible refine wpStill_nil ?_
    have hkl : Pairs wr.drew.drew (some ⟨B, off, none⟩) (l.take l.length) := (((HL.out.kept (HK0.out.trans HKW.out)).kept (Kept.refl _).drew.drew)).take l.length
    clear hkl
    obtain ⟨k, hkk⟩ : ∃ k, l.length = k := ⟨_, rfl⟩
    have HKK := Lib.hid hkk
    rw [hkk] at HNO ⊢
    have hk : k ≤ l.length := by omega
    have hDK : l.drop k = [] := by rw [← hkk]; exact List.drop_length
    have HDK := Lib.hid hDK
    have hcl : k ≤ c := by omega
    clear hDK HIN
    by_cases hck : c = k
    case pos =>
      subst hck
      have hk2 : Kept wr wr.drew.drew := (Kept.refl _).drew.drew
      have HTK : Hid ((l.take c).length = c) := Lib.hid (by rw [List.length_take]; omega)
      have HPT : Hid (Pairs wr.drew.drew (some ⟨B, off, none⟩) (l.take c)) := Lib.hid (((HL.out.kept (HK0.out.trans HKW.out)).kept hk2).take c)
      go_wp2_with (first | (at_builtin; refine append_prs (wr.drew.drew.alloc (.cells #[] 83)) rfl _ _ rfl wr.drew.drew.heap.size (.slice (some ⟨wr.drew.drew.heap.size, 0, none⟩) 0 0) [] rfl (OwnE wr.drew.drew (Nat.le_refl _)) (l.take c) (some ⟨B, off, none⟩) c (by rw [HTK.out]; rfl) (HPT.out.kept ((Kept.refl _).alloc _)) (fun h => by cases h) (by rw [HTK.out]; simp; omega) (by simp) ?_; intro v4 w4 hown hg; have hk : Kept wr.drew.drew w4 := ((Kept.refl wr.drew.drew).alloc _).grown hg (fun r e => by cases e; exact Nat.le_refl _); have HO4 := Lib.hid hown; have HK4 := Lib.hid (hk2.trans hk); clear hown hg hk) | fail)
      have p0 := HK4.out.cell r0
      have p1 := HK4.out.cell r1
      have pb := lt_of_cell p0
      go_region_held3 (fun X => X.cell? ⟨g3, 0, none⟩ = some (.int .i64 x1) ∧ X.cell? ⟨g3, 1, none⟩ = some (.int .i64 x2) ∧ g3 < X.heap.size)
        (first | exact ⟨p0, p1, pb⟩ | exact ⟨z0, z1, zb⟩ | exact ⟨Z0, Z1, Zb⟩ | exact ⟨((Kept.refl w4).drew.alloc _).cell p0, ((Kept.refl w4).drew.alloc _).cell p1, lt_of_cell (((Kept.refl w4).drew.alloc _).cell p0)⟩)
        (first
          | (refine step_prs rfl (.tmp 64) (.tmp 67) rfl wr.drew.drew.heap.size v5 (l.take c ++ [(x1, x2)]) hown5 (by simp [Act.eval]) (l.drop c) (some ⟨B, off, none⟩) (c - c) (by rw [List.length_drop]; simp [Act.eval] <;> omega) (by rw [HDK.out]; exact Pairs.nil _ _) (fun h => by cases h) (by rw [List.length_append, HTK.out, List.length_drop]; simp; omega) (by exact hk5.size) ?_; intro v6 w6 hown6 hg6; have hk6 := hk5.grown hg6 (fun r e => (hown5.lt r e).1); have Z0 := hk6.cell r0; have Z1 := hk6.cell r1; have Zb := lt_of_cell Z0)
          | (refine step_app2J rfl (.tmp 61) (.tmp 63) rfl wr.drew.drew.heap.size v4 (l.take c) (HO4.out.kept ((Kept.refl _).drew.alloc _)) (by simp [Act.eval]) (x1, x2) w4.heap.size 1 (by simp [Act.eval]) (by constructor <;> simp [go_sem]) (by rw [HTK.out]; omega) (by have := HK4.out.size; simp; omega) ?_; intro v5 w5 hown5 hg5; have hk5 : Kept wr w5 := ((HK4.out.trans ((Kept.refl _).drew.alloc _)).grown hg5 (fun r e => (HO4.out.lt r e).1)); have z0 := hk5.cell r0; have z1 := hk5.cell r1; have zb := lt_of_cell z0))
      rename_i hHeld
      clear hHeld hg5 hg6 z0 z1 zb Z0 Z1 Zb p0 p1 pb
      obtain ⟨ra, rc, rfl, hrp, hrl, hrn, hrb⟩ := hown6.ins
      rw [← HNO.out] at hrp hrl
      have hRL : R.length = ((l.take c ++ [(x1, x2)]) ++ l.drop c).length := by rw [HNO.out]
      rw [← hRL]
      have HRP := Lib.hid hrp
      have HRL := Lib.hid hrl
      have HRN := Lib.hid hrn
      have HRB := Lib.hid hrb
      have HK6 := Lib.hid hk6
      clear hrp hrl hrn hrb hk6 hown6 hown5 hk5 hRL
      go_wp2
      go_ret
      exact ⟨ra, rc, rfl, HRP.out, HRL.out, HRN.out, fun ad e => (HRB.out ad e).elim fun B h => h.elim fun off h => ⟨B, off, h.1, .inr (Nat.le_trans (HK0.out.trans HKW.out).size h.2)⟩, (HK0.out.trans HKW.out).trans HK6.out⟩
    have hk2 : Kept wr wr.drew.drew := (Kept.refl _).drew.drew
    have HTK : Hid ((l.take k).length = k) := Lib.hid (by rw [List.length_take]; omega)
    have HPT : Hid (Pairs wr.drew.drew (some ⟨B, off, none⟩) (l.take k)) := Lib.hid (((HL.out.kept (HK0.out.trans HKW.out)).kept hk2).take k)
    go_wp2_with (first | (at_builtin; refine append_prs (wr.drew.drew.alloc (.cells #[] 83)) rfl _ _ rfl wr.drew.drew.heap.size (.slice (some ⟨wr.drew.drew.heap.size, 0, none⟩) 0 0) [] rfl (OwnE wr.drew.drew (Nat.le_refl _)) (l.take k) (some ⟨B, off, none⟩) c (by rw [HTK.out]; rfl) (HPT.out.kept ((Kept.refl _).alloc _)) (fun h => by cases h) (by rw [HTK.out]; simp; omega) (by simp) ?_; intro v4 w4 hown hg; have hk : Kept wr.drew.drew w4 := ((Kept.refl wr.drew.drew).alloc _).grown hg (fun r e => by cases e; exact Nat.le_refl _); have HO4 := Lib.hid hown; have HK4 := Lib.hid (hk2.trans hk); clear hown hg hk) | fail)
    have p0 := HK4.out.cell r0
    have p1 := HK4.out.cell r1
    have pb := lt_of_cell p0
    go_region_held3 (fun X => X.cell? ⟨g3, 0, none⟩ = some (.int .i64 x1) ∧ X.cell? ⟨g3, 1, none⟩ = some (.int .i64 x2) ∧ g3 < X.heap.size)
      (first | exact ⟨p0, p1, pb⟩ | exact ⟨z0, z1, zb⟩ | exact ⟨Z0, Z1, Zb⟩ | exact ⟨((Kept.refl w4).drew.alloc _).cell p0, ((Kept.refl w4).drew.alloc _).cell p1, lt_of_cell (((Kept.refl w4).drew.alloc _).cell p0)⟩)
      (first
        | (refine step_prs rfl (.tmp 64) (.tmp 67) rfl wr.drew.drew.heap.size v5 (l.take k ++ [(x1, x2)]) hown5 (by simp [Act.eval]) (l.drop k) (some ⟨B, off + k * 2, none⟩) (c - k) (by rw [List.length_drop]; simp [Act.eval] <;> omega) (by rw [HDK.out]; exact Pairs.nil _ _) (fun h => by cases h) (by rw [List.length_append, HTK.out, List.length_drop]; simp; omega) (by exact hk5.size) ?_; intro v6 w6 hown6 hg6; have hk6 := hk5.grown hg6 (fun r e => (hown5.lt r e).1); have Z0 := hk6.cell r0; have Z1 := hk6.cell r1; have Zb := lt_of_cell Z0)
        | (refine step_app2J rfl (.tmp 61) (.tmp 63) rfl wr.drew.drew.heap.size v4 (l.take k) (HO4.out.kept ((Kept.refl _).drew.alloc _)) (by simp [Act.eval]) (x1, x2) w4.heap.size 1 (by simp [Act.eval]) (by constructor <;> simp [go_sem]) (by rw [HTK.out]; omega) (by have := HK4.out.size; simp; omega) ?_; intro v5 w5 hown5 hg5; have hk5 : Kept wr w5 := ((HK4.out.trans ((Kept.refl _).drew.alloc _)).grown hg5 (fun r e => (HO4.out.lt r e).1)); have z0 := hk5.cell r0; have z1 := hk5.cell r1; have zb := lt_of_cell z0))
    rename_i hHeld
    clear hHeld hg5 hg6 z0 z1 zb Z0 Z1 Zb p0 p1 pb
    obtain ⟨ra, rc, rfl, hrp, hrl, hrn, hrb⟩ := hown6.ins
    rw [← HNO.out] at hrp hrl
    have hRL : R.length = ((l.take k ++ [(x1, x2)]) ++ l.drop k).length := by rw [HNO.out]
    rw [← hRL]
    have HRP := Lib.hid hrp
    have HRL := Lib.hid hrl
    have HRN := Lib.hid hrn
    have HRB := Lib.hid hrb
    have HK6 := Lib.hid hk6
    clear hrp hrl hrn hrb hk6 hown6 hown5 hk5 hRL
    go_wp2
    go_ret
    exact ⟨ra, rc, rfl, HRP.out, HRL.out, HRN.out, fun ad e => (HRB.out ad e).elim fun B h => h.elim fun off h => ⟨B, off, h.1, .inr (Nat.le_trans (HK0.out.trans HKW.out).size h.2)⟩, (HK0.out.trans HKW.out).trans HK6.out⟩
set_option maxHeartbeats 4000000 in
theorem Rinsert_nil (x1 x2 : Int) (w : World) :
    Calls Try.prog 134 #[.slice none 0 0, .agg #[.int .i64 x1, .int .i64 x2]] w (InsP [(x1, x2)] none w) := by
  go_enter Try.func134, Try.ntmps134
  go_wp2
  have hk0 : Kept w (w.alloc (.cells #[.int .i64 x1, .int .i64 x2] 83)) := (Kept.refl _).alloc _
  have hc0 : (w.alloc (.cells #[.int .i64 x1, .int .i64 x2] 83)).cell? ⟨w.heap.size, 0, none⟩ = some (.int .i64 x1) := by simp [go_sem]
  have hc1 : (w.alloc (.cells #[.int .i64 x1, .int .i64 x2] 83)).cell? ⟨w.heap.size, 1, none⟩ = some (.int .i64 x2) := by simp [go_sem]
  generalize w.alloc (.cells #[.int .i64 x1, .int .i64 x2] 83) = w0 at *
  obtain ⟨g3, hg3⟩ : ∃ g, w.heap.size = g := ⟨_, rfl⟩
  rw [hg3] at hc0 hc1 ⊢
  have HK0 := Lib.hid hk0
  have HC0 := Lib.hid hc0
  have HC1 := Lib.hid hc1
  clear hk0 hc0 hc1 hg3
  go_loopw [5] (fun i wr => i = .int .i64 0 ∧ Kept w0 wr) (fun _ _ => 0)
  case atStart => exact ⟨rfl, Kept.refl _⟩
  case round =>
    obtain ⟨rfl, hkw⟩ := hrel
    have HKW := Lib.hid hkw
    clear hkw
    have r0 := HKW.out.cell HC0.out
    have r1 := HKW.out.cell HC1.out
    have rb := lt_of_cell r0
    go_wp2
    refine region_tail 33 (by kernel_rfl) (by kernel_rfl) ?_
    simp only [List.take_succ_cons, List.take_zero, List.drop_succ_cons, List.drop_zero]
    iterate 5
      with_reducible refine wpStill_want ?_ (fun K hK => ?_)
      · rfl
      go_simp
      refine hK _ ?_
      clear hK K
    iterate 28
      with_reducible refine wpStill_skip ?_ ?_
      · rfl
      simp only [Act.put, List.setIfInBounds_toArray, List.set_cons_zero, List.set_cons_succ]
    with_reducible refine wpStill_nil ?_
    go_wp2
    refine region_tail 11 (by kernel_rfl) (by kernel_rfl) ?_
    simp only [List.take_succ_cons, List.take_zero, List.drop_succ_cons, List.drop_zero]
    iterate 5
      with_reducible refine wpStill_want ?_ (fun K hK => ?_)
      · rfl
      go_simp
      refine hK _ ?_
      clear hK K
    iterate 6
      with_reducible refine wpStill_skip ?_ ?_
      · rfl
      simp only [Act.put, List.setIfInBounds_toArray, List.set_cons_zero, List.set_cons_succ]
    with_reducible refine wpStill_nil ?_
    have hk2 : Kept wr wr.drew.drew := (Kept.refl _).drew.drew
    go_wp2_with (first | (at_builtin; refine append_prs (wr.drew.drew.alloc (.cells #[] 83)) rfl _ _ rfl wr.drew.drew.heap.size (.slice (some ⟨wr.drew.drew.heap.size, 0, none⟩) 0 0) [] rfl (OwnE wr.drew.drew (Nat.le_refl _)) [] none 0 rfl (Pairs.nil _ _) (fun _ => rfl) (by simp) (by simp) ?_; intro v4 w4 hown hg; have hk : Kept wr.drew.drew w4 := ((Kept.refl wr.drew.drew).alloc _).grown hg (fun r e => by cases e; exact Nat.le_refl _); have HO4 := Lib.hid hown; have HK4 := Lib.hid (hk2.trans hk); clear hown hg hk) | fail)
    have p0 := HK4.out.cell r0
    have p1 := HK4.out.cell r1
    have pb := lt_of_cell p0
    go_region_held3 (fun X => X.cell? ⟨g3, 0, none⟩ = some (.int .i64 x1) ∧ X.cell? ⟨g3, 1, none⟩ = some (.int .i64 x2) ∧ g3 < X.heap.size)
      (first | exact ⟨p0, p1, pb⟩ | exact ⟨z0, z1, zb⟩ | exact ⟨Z0, Z1, Zb⟩ | exact ⟨((Kept.refl w4).drew.alloc _).cell p0, ((Kept.refl w4).drew.alloc _).cell p1, lt_of_cell (((Kept.refl w4).drew.alloc _).cell p0)⟩)
      (first
        | (refine step_prs rfl (.tmp 64) (.tmp 67) rfl wr.drew.drew.heap.size v5 [(x1, x2)] hown5 (by simp [Act.eval]) [] none 0 (by simp [Act.eval]) (Pairs.nil _ _) (fun _ => rfl) (by simp) (by exact hk5.size) ?_; intro v6 w6 hown6 hg6; have hk6 := hk5.grown hg6 (fun r e => (hown5.lt r e).1); have Z0 := hk6.cell r0; have Z1 := hk6.cell r1; have Zb := lt_of_cell Z0)
        | (refine step_app2J rfl (.tmp 61) (.tmp 63) rfl wr.drew.drew.heap.size v4 [] (HO4.out.kept ((Kept.refl _).drew.alloc _)) (by simp [Act.eval]) (x1, x2) w4.heap.size 1 (by simp [Act.eval]) (by constructor <;> simp [go_sem]) (by simp) (by have := HK4.out.size; simp; omega) ?_; intro v5 w5 hown5 hg5; have hk5 : Kept wr w5 := ((HK4.out.trans ((Kept.refl _).drew.alloc _)).grown hg5 (fun r e => (HO4.out.lt r e).1)); have z0 := hk5.cell r0; have z1 := hk5.cell r1; have zb := lt_of_cell z0))
    rename_i hHeld
    clear hHeld hg5 hg6 z0 z1 zb Z0 Z1 Zb p0 p1 pb
    obtain ⟨ra, rc, rfl, hrp, hrl, hrn, hrb⟩ := hown6.ins
    have HRP := Lib.hid hrp
    have HRL := Lib.hid hrl
    have HRN := Lib.hid hrn
    have HRB := Lib.hid hrb
    have HK6 := Lib.hid hk6
    clear hrp hrl hrn hrb hk6 hown6 hown5 hk5
    go_wp2
    go_ret
    exact ⟨ra, rc, rfl, HRP.out, HRL.out, HRN.out, fun ad e => (HRB.out ad e).elim fun B h => h.elim fun off h => ⟨B, off, h.1, .inr (Nat.le_trans (HK0.out.trans HKW.out).size h.2)⟩, (HK0.out.trans HKW.out).trans HK6.out⟩
theorem Rinsert_any (l : List (Int × Int)) (lo : Option Addr) (c : Nat) (x : Int × Int) (w : World) (hl : Pairs w lo l) (hnil : lo = none → c = 0) (hform : ∀ ad, lo = some ad → ∃ B off, ad = ⟨B, off, none⟩) (hc : l.length ≤ c) (hlen : l.length < 100000) :
    Calls Try.prog 134 #[.slice lo l.length c, .agg #[.int .i64 x.1, .int .i64 x.2]] w (InsP (insP l x) lo w) := by
  cases lo with
  | none =>
    obtain rfl := hnil rfl
    have : l = [] := List.length_eq_zero_iff.1 (by omega)
    subst this
    exact Rinsert_nil x.1 x.2 w
  | some ad =>
    obtain ⟨B, off, rfl⟩ := hform ad rfl
    exact Rinsert_some l B off c x.1 x.2 w hl hc hlen
end Go.Proofs.Yteljjkghjbofnaa
