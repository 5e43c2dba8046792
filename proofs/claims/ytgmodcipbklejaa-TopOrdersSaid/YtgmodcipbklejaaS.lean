/- slices.Compact, BinarySearchFunc at ascending numbers; Ranks. -/
import Derived.Test.YtgmodcipbklejaaR
set_option maxRecDepth 100000
namespace Go.Proofs.Ytgmodcipbklejaa
open Go Go.Proofs Go.RowKit
attribute [local go_sem] Oper.semAt_some

set_option maxHeartbeats 1000000 in
theorem compact_any (l : List Int) (g c base : Nat) (w : World) (h : OwnI w base (.slice (some ⟨g, 0, none⟩) l.length c) l) (hs : l.Pairwise (· < ·)) (hl : l.length ≤ 12) :
    Calls Try.prog 21 #[.slice (some ⟨g, 0, none⟩) l.length c] w (Gives (.slice (some ⟨g, 0, none⟩) l.length c) w) := by
  have H := Lib.hid h
  have HS := Lib.hid hs
  clear h hs
  by_cases h2 : l.length < 2
  · go_enter Try.func21, Try.ntmps21
    go_wp2
    go_ret
    exact ⟨rfl, Kept.refl w⟩
  go_enter Try.func21, Try.ntmps21
  go_wp2_with fail
  go_loopw [3] (fun kv wr => ∃ k : Nat, 1 ≤ k ∧ k ≤ l.length ∧ kv = .int .i64 k ∧ Kept w wr) (fun kv _ => l.length - (intOf kv).toNat)
  case atStart => exact ⟨1, by omega, by omega, rfl, Kept.refl w⟩
  case round =>
    obtain ⟨k, hk1, hk2, rfl, hkr⟩ := hrel
    have HKR := Lib.hid hkr
    clear hkr
    by_cases hlt : k < l.length
    case neg =>
      go_wp2
      go_ret
      exact ⟨rfl, HKR.out⟩
    obtain ⟨q, hq⟩ : ∃ q, k - 1 = q := ⟨_, rfl⟩
    have hwq : IntKind.i64.wrap ((k : Int) - 1) = (q : Int) := by rw [IntWalk.i64_in _ (by omega)]; omega
    have hql : q < l.length := by omega
    have ck := (H.out.kept HKR.out).at hlt
    have cq := (H.out.kept HKR.out).at hql
    have hlt2 : l[q] < l[k] := List.pairwise_iff_getElem.1 HS.out q k hql hlt (by omega)
    generalize l[k] = x at *
    generalize l[q] = y at *
    have hne : (x == y) = false := by simp; omega
    have hgl := lt_of_cell ck
    clear hlt2 hq
    go_wp2
    refine region_tail 9 (by kernel_rfl) (by kernel_rfl) ?_
    simp only [List.take_succ_cons, List.take_zero, List.drop_succ_cons, List.drop_zero]
    iterate 9
      with_reducible refine wpStill_want ?_ (fun K hK => ?_)
      · rfl
      go_simp
      refine hK _ ?_
      clear hK K
    refine wpStill_nil ?_
    clear hwq
    go_wp2
    go_roundw
    case measure => simp [intOf]; omega
    case rel => exact ⟨k + 1, by omega, by omega, by go_num, HKR.out.drew⟩
def SearchPost (k : Nat) (w : World) (e : Ending) (w' : World) : Prop := e = .returned (.tuple #[.int .i64 k, .bool true]) ∧ w = w'
set_option maxHeartbeats 1000000 in
theorem search_any (l : List Int) (g c base k : Nat) (x : Int) (w : World) (h : OwnI w base (.slice (some ⟨g, 0, none⟩) l.length c) l) (hs : l.Pairwise (· < ·)) (hl : l.length ≤ 12) (hk : k < l.length) (hx : l.getD k 0 = x) :
    Calls Try.prog 22 #[.slice (some ⟨g, 0, none⟩) l.length c, .int .i64 x, .func (.func 23) #[] #[]] w (SearchPost k w) := by
  have H := Lib.hid h
  have HS := Lib.hid hs
  have HX := Lib.hid hx
  have hcall := Try.call23
  clear h hs hx
  go_enter Try.func22, Try.ntmps22
  go_wp2_with fail
  go_loop [9, 10] (fun iv jv => ∃ i j : Nat, i ≤ k ∧ k ≤ j ∧ j ≤ l.length ∧ iv = .int .i64 i ∧ jv = .int .i64 j) (fun iv jv => (intOf jv).toNat - (intOf iv).toNat)
  case atStart => exact ⟨0, l.length, by omega, by omega, by omega, rfl, rfl⟩
  case round =>
    obtain ⟨i, j, hi, hj, hjl, rfl, rfl⟩ := hrel
    by_cases hij : i < j
    case pos =>
      have hm1 : (i + j) / 2 < l.length := by omega
      have hh := H.out.at hm1
      obtain ⟨y, hy⟩ : ∃ y, l[(i + j) / 2] = y := ⟨_, rfl⟩
      rw [hy] at hh
      have hgl := lt_of_cell hh
      have HC1 : Hid ((i + j) / 2 < k → y < x) := Lib.hid fun h => by
        have := List.pairwise_iff_getElem.1 HS.out _ k hm1 hk h
        rw [← HX.out, getD_get hk, ← hy]; exact this
      have HC2 : Hid (¬ (i + j) / 2 < k → ¬ y < x) := Lib.hid fun h => by
        by_cases e : (i + j) / 2 = k
        · have e2 : y = x := by rw [← HX.out, getD_get hk, ← hy]; simp only [e]
          omega
        · have := List.pairwise_iff_getElem.1 HS.out k _ hk hm1 (by omega)
          rw [← HX.out, getD_get hk, ← hy]; omega
      clear hy
      go_wp2_with fail
      refine (cmpI_any y x w).mono ?_
      rintro e w1 ⟨rfl, rfl⟩
      by_cases hmk : (i + j) / 2 < k
      · have hyx := HC1.out hmk
        rw [if_pos hyx]
        clear hyx
        go_wp2
        go_round
        case measure => simp [intOf]; omega
        case rel => exact ⟨(i + j) / 2 + 1, j, by omega, by omega, by omega, by go_num, rfl⟩
      · have hyx := HC2.out hmk
        rw [if_neg (by omega)]
        obtain ⟨r, hr⟩ : ∃ r, (if x < y then (1 : Int) else 0) = r := ⟨_, rfl⟩
        have hr0 : 0 ≤ r := by rw [← hr]; split <;> omega
        rw [hr]
        clear hyx hr
        have hrd : decide (r < 0) = false := decide_eq_false (by omega)
        go_wp2
        go_round
        case measure => simp [intOf]; omega
        case rel => exact ⟨i, (i + j) / 2, by omega, by omega, by omega, rfl, by go_num⟩
    case neg =>
      obtain rfl : i = k := by omega
      have hh := H.out.at hk
      rw [getD_get hk] at HX
      rw [HX.out] at hh
      have hgl := lt_of_cell hh
      have hr : (if x < x then (-1 : Int) else if x < x then 1 else 0) = 0 := by simp
      have HR := Lib.hid hr
      clear hr
      go_wp2_with fail
      refine (cmpI_any x x w).mono ?_
      rintro e w1 ⟨rfl, rfl⟩
      rw [HR.out]
      go_wp2
      go_ret2
      exact ⟨rfl, rfl⟩
/-- The ranks of different days. -/
def RanksPost (l : List Int) (w : World) (e : Ending) (w' : World) : Prop := ∃ v all r, e = .returned (.tuple #[v, .int .i64 0]) ∧ OwnI w' w.heap.size v r ∧ all.Pairwise (· < ·) ∧ (∀ x, x ∈ all ↔ x ∈ l) ∧ RankOf all l r ∧ Kept w w'
theorem asc_strict {l l' : List Int} (hp : l'.Perm l) (hn : l.Nodup) (ha : Asc l' l.length) : l'.Pairwise (· < ·) := by
  have hn' : l'.Nodup := hp.nodup_iff.2 hn
  rw [List.pairwise_iff_getElem]
  intro i j hi hj hij
  have h1 := ha i j hij (by rw [← hp.length_eq]; exact hj) hj
  rw [getD_get hi, getD_get hj] at h1
  have h2 : l'[i] ≠ l'[j] := List.pairwise_iff_getElem.1 hn' i j hi hj hij
  omega
set_option maxHeartbeats 400000 in
theorem insertion_empty (ao : Option Addr) (c : Nat) (w : World) : Calls Try.prog 64 #[.slice ao 0 c, .int .i64 0, .int .i64 0] w (Tells (.tuple #[]) w) := by
  go_enter Try.func64, Try.ntmps64
  go_wp2
  go_loop [6] (fun i => i = .int .i64 1) (fun _ => 0)
  case atStart => rfl
  case round =>
    subst hrel
    go_wp2
    exact bodyPost_ret (results_none rfl _ _ _) rfl ⟨rfl, rfl⟩
set_option maxHeartbeats 400000 in
theorem pdq_empty (ao : Option Addr) (c : Nat) (lim : Int) (w : World) : Calls Try.prog 48 #[.slice ao 0 c, .int .i64 0, .int .i64 0, .int .i64 lim] w (Tells (.tuple #[]) w) := by
  go_enter Try.func48, Try.ntmps48
  go_wp2
  go_loop [1, 2] (fun i j => i = .int .i64 0 ∧ j = .int .i64 0) (fun _ _ => 0)
  case atStart => exact ⟨rfl, rfl⟩
  case round =>
    obtain ⟨rfl, rfl⟩ := hrel
    go_wp2_with fail
    refine (insertion_empty ao c w).mono ?_
    rintro e w1 ⟨rfl, rfl⟩
    go_wp2
    exact bodyPost_ret (results_none rfl _ _ _) rfl ⟨rfl, rfl⟩
set_option maxHeartbeats 400000 in
theorem sort_empty (ao : Option Addr) (c : Nat) (w : World) : Calls Try.prog 20 #[.slice ao 0 c] w (Tells (.tuple #[]) w) := by
  go_enter Try.func20, Try.ntmps20
  go_wp2_with fail
  refine (len_any 0 (by omega) w).mono ?_
  rintro e w1 ⟨x, rfl, rfl⟩
  go_wp2_with fail
  refine (pdq_empty ao c x w).mono ?_
  rintro e w1 ⟨rfl, rfl⟩
  go_wp2
  exact bodyPost_ret (results_none rfl _ _ _) rfl ⟨rfl, rfl⟩
set_option maxHeartbeats 400000 in
theorem compact_empty (ao : Option Addr) (c : Nat) (w : World) : Calls Try.prog 21 #[.slice ao 0 c] w (Tells (.slice ao 0 c) w) := by
  go_enter Try.func21, Try.ntmps21
  go_wp2
  go_ret
  exact ⟨rfl, rfl⟩
theorem append_int {ops : Array Oper} {rest : List Oper} {o : Oper} {a : Act} {Q : Exit → Act → World → Prop} (w : World) (hg : o.guard = none) (s x : Operand)
    (ho : o.op = .call { callee := .builtin .append, args := #[s, x], argTypes := #[25, 25] }) (base : Nat) (v : Value) (l : List Int) (hs : a.eval s = v) (hown : OwnI w base v l)
    (g : Nat) (y : Int) (hx : a.eval x = .slice (some ⟨g, 0, none⟩) 1 1) (hc : w.cell? ⟨g, 0, none⟩ = some (.int .i64 y)) (hl : l.length + 1 < 1099511627776) (hbase : base ≤ w.heap.size)
    (h : ∀ v' w', OwnI w' base v' (l ++ [y]) → w.grownBy w' v.ownBlock → (v'.ownBlock = v.ownBlock ∨ v'.ownBlock = some w.heap.size) → wpList Try.prog ops Q rest (a.put o.dst v') w') :
    wpList Try.prog ops Q (o :: rest) a w := by
  obtain ⟨i0, hi, hz0, hz1, hz2⟩ := info_parts' info3'
  refine wpList_append_own_at w hg s x 25 ho base 3 i0 _ 1 8 Try.underlying25 hi hz0 hz1 hz2 rfl (by decide) v l.length _ hs hown ⟨g, 0, none⟩ 1 1 [.int .i64 y] hx rfl
    (fun j u hu => ?_) (fun u hu => by rw [List.mem_singleton.1 hu]; rfl) (by unfold maxLen; omega) (by omega) hbase ?_
  · match j, hu with
    | 0, hu => simp at hu; subst hu; exact hc
    | j + 1, hu => simp at hu
  · intro v' w' h1 h2 _ h4
    refine h v' w' ?_ h2 h4
    unfold OwnI
    rw [List.length_append, List.map_append]
    simpa using h1
theorem clone_empty (lo : Option Addr) (c : Nat) (w : World) : Calls Try.prog 19 #[.slice lo 0 c] w (fun e w' => ∃ ao c', e = .returned (.slice ao 0 c') ∧ Kept w w') := by
  cases lo with
  | none => exact (clone_none c w).mono fun e w' ⟨h, h2⟩ => ⟨none, 0, h, h2 ▸ Kept.refl w⟩
  | some a =>
    refine (clone_some [] a c w (fun j u h => by simp at h) (by simp)).mono ?_
    rintro e w' ⟨v, h, ho, hk⟩
    obtain ⟨ao, c', rfl, -, -⟩ := ho.ints
    exact ⟨ao, c', h, hk⟩
theorem OwnI.grownNe {X Y : World} {base : Nat} {v : Value} {l : List Int} {row : Option Nat} (h : OwnI X base v l) (hg : X.grownBy Y row) (hr : ∀ k, v.ownBlock = some k → some k ≠ row) : OwnI Y base v l := by
  refine ⟨h.1, ?_⟩
  rcases h.2 with hn | ⟨g, cap, cur, rfl, hb, hgg, rest⟩
  · exact .inl hn
  · exact .inr ⟨g, cap, cur, rfl, hb, (hg.block g (Array.getElem?_eq_some_iff.1 hgg).1 (hr g rfl)).trans hgg, rest⟩
set_option maxHeartbeats 1000000 in
theorem Ranks_empty (lo : Option Addr) (c : Nat) (w : World) : Calls Try.prog 8 #[.int .i64 0, .slice lo 0 c] w (RanksPost [] w) := by
  go_enter Try.func8, Try.ntmps8
  go_wp2_with fail
  refine (in_yes (by omega) (by omega) _).mono ?_
  rintro e w1 ⟨rfl, rfl⟩
  go_wp2_with fail
  refine (clone_empty lo c w).mono ?_
  rintro e w1 ⟨ao, c', rfl, hk⟩
  have HK := Lib.hid hk
  clear hk
  go_wp2_with fail
  refine (sort_empty ao c' w1).mono ?_
  rintro e w2 ⟨rfl, rfl⟩
  go_wp2_with fail
  refine (compact_empty ao c' w1).mono ?_
  rintro e w2 ⟨rfl, rfl⟩
  go_wp2_with fail
  go_loop [29, 7] (fun iv vv => iv = .int .i64 0 ∧ vv = .slice none 0 0) (fun _ _ => 0)
  case atStart => exact ⟨rfl, rfl⟩
  case round =>
    obtain ⟨rfl, rfl⟩ := hrel
    go_wp2
    go_ret2
    exact ⟨_, [], [], rfl, OwnI.nil _ _, List.Pairwise.nil, fun x => Iff.rfl, ⟨rfl, fun i hi => absurd hi (Nat.not_lt_zero _)⟩, HK.out⟩
set_option maxHeartbeats 1000000 in
theorem Ranks_some (n : Nat) (l : List Int) (b off c : Nat) (w : World) (hl : Ints w (some ⟨b, off, none⟩) l) (hln : l.length = n) (hn : n ≤ 12) (h0 : l ≠ []) (hnd : l.Nodup) : Calls Try.prog 8 #[.int .i64 n, .slice (some ⟨b, off, none⟩) l.length c] w (RanksPost l w) := by
  subst hln
  have HL := Lib.hid hl
  have HND := Lib.hid hnd
  have H0 := Lib.hid h0
  clear hl hnd h0
  have hne : ((l.length : Int) != (l.length : Int)) = false := by simp
  go_enter Try.func8, Try.ntmps8
  go_wp2_with fail
  refine (in_yes (by omega) (by omega) _).mono ?_
  rintro e w1 ⟨rfl, rfl⟩
  go_wp2_with fail
  clear hne
  refine (clone_some l ⟨b, off, none⟩ c w (fun j u hu => by
    rw [List.getElem?_map] at hu
    cases hx : l[j]? with
    | none => rw [hx] at hu; cases hu
    | some x =>
      rw [hx] at hu
      cases hu
      obtain ⟨hj, rfl⟩ := List.getElem?_eq_some_iff.1 hx
      obtain ⟨b', o', e, hc⟩ := HL.out j hj
      simp only [Option.some.injEq, Addr.mk.injEq] at e
      obtain ⟨rfl, rfl, -⟩ := e
      rw [Addr.add_mid]
      exact hc) (by omega)).mono ?_
  rintro e w1 ⟨v, rfl, ho, hk1⟩
  rcases ho.slice with ⟨e, -⟩ | ⟨g, cc, rfl, hcc, hbg, hgl⟩
  · exact absurd e H0.out
  have HO := Lib.hid ho
  have HK1 := Lib.hid hk1
  have HBG := Lib.hid hbg
  clear ho hk1 hbg hgl hcc
  go_wp2_with fail
  refine (sort_any l g cc w.heap.size w1 HO.out hn).mono ?_
  rintro e w2 ⟨all, rfl, hp, ha, ho2, hg2⟩
  have HO2 := Lib.hid ho2
  have HP := Lib.hid hp
  have HA := Lib.hid (asc_strict hp HND.out ha)
  have HK2 : Hid (Kept w w2) := Lib.hid (Kept.grown HK1.out hg2 (fun r e => by cases e; exact HBG.out))
  have hal := hp.length_eq
  clear hp ha ho2 hg2 HO
  rw [← hal] at HO2
  go_wp2_with fail
  rw [← hal]
  refine (compact_any all g cc w.heap.size w2 HO2.out HA.out (by omega)).mono ?_
  rintro e w3 ⟨rfl, hk3⟩
  have HK3 := Lib.hid (HK2.out.trans hk3)
  have HO3 := Lib.hid (HO2.out.kept hk3)
  clear hk3
  have HAL := Lib.hid hal
  clear hal
  go_wp2_with fail
  go_loopw [29, 7] (fun iv vv wr => ∃ (i : Nat) (r : List Int), i ≤ l.length ∧ iv = .int .i64 i ∧ Kept w wr ∧ OwnI wr w.heap.size vv r ∧ r.length = i ∧ (∀ p, p < i → ∃ k, k < all.length ∧ all.getD k 0 = l.getD p 0 ∧ r.getD p 0 = (k : Int) + 1) ∧ OwnI wr w.heap.size (.slice (some ⟨g, 0, none⟩) all.length cc) all ∧ vv.ownBlock ≠ some g) (fun iv _ _ => l.length - (intOf iv).toNat)
  case atStart => exact ⟨0, [], by omega, rfl, HK3.out, OwnI.nil _ _, rfl, fun p h => absurd h (Nat.not_lt_zero _), HO3.out, by simp [Value.ownBlock]⟩
  case round =>
    obtain ⟨i, r, hi, rfl, hkr, hor, hrl, hrk, hoa, hnb⟩ := hrel
    have HKR := Lib.hid hkr
    have HOR := Lib.hid hor
    have HRK := Lib.hid hrk
    have HOA := Lib.hid hoa
    have HNB := Lib.hid hnb
    have HRL := Lib.hid hrl
    clear hkr hor hrk hoa hnb hrl
    by_cases hlt : i < l.length
    case neg =>
      have hri : Hid (r.length = l.length) := Lib.hid (by rw [HRL.out]; omega)
      have hlt2 : ¬ i < all.length := by rw [HAL.out]; exact hlt
      clear hi
      go_wp2
      go_ret2
      exact ⟨_, all, r, rfl, HOR.out, HA.out, fun x => HP.out.mem_iff, ⟨hri.out, fun p hp => HRK.out p (by have := HRL.out; have := hri.out; omega)⟩, HKR.out⟩
    obtain ⟨b', o', e, hc⟩ := HL.out.kept HKR.out i hlt
    simp only [Option.some.injEq, Addr.mk.injEq] at e
    obtain ⟨rfl, rfl, -⟩ := e
    obtain ⟨x, hx⟩ : ∃ x, l[i] = x := ⟨_, rfl⟩
    have hxm : x ∈ all := HP.out.mem_iff.2 (by rw [← hx]; exact List.getElem_mem hlt)
    obtain ⟨k, hk, hkx⟩ := List.getElem_of_mem hxm
    have HKX : Hid (all.getD k 0 = x) := Lib.hid (by rw [getD_get hk]; exact hkx)
    have HLX : Hid (l.getD i 0 = x) := Lib.hid (by rw [getD_get hlt]; exact hx)
    rw [hx] at hc
    have hbl := lt_of_cell hc
    clear hx hxm hkx
    have ha12 : all.length ≤ 12 := by rw [HAL.out]; exact hn
    have HGL : Hid (g < wr.heap.size) := Lib.hid (by
      rcases HOA.out.slice with ⟨-, e⟩ | ⟨g', c', e, -, -, h⟩
      · cases e
      · simp only [Value.slice.injEq, Option.some.injEq, Addr.mk.injEq] at e
        rw [e.1.1]; exact h)
    have hk12 : k < 12 := by omega
    have hlt2 : i < all.length := by rw [HAL.out]; exact hlt
    go_wp2_with fail
    refine (search_any all g cc w.heap.size k x wr HOA.out HA.out ha12 hk HKX.out).mono ?_
    rintro e w4 ⟨rfl, rfl⟩
    go_wp2_with (first | (at_builtin; refine append_int _ rfl _ _ rfl w.heap.size _ r rfl (HOR.out.kept ((Kept.refl _).alloc _)) wr.heap.size ((k : Int) + 1) rfl (by simp [go_sem]) (by have := HRL.out; omega) (by have := HKR.out.size; simp; omega) ?_; intro v6 w6 hown6 hg6 hat6) | fail)
    go_roundw
    case measure => simp [intOf]; omega
    case rel =>
      refine ⟨i + 1, r ++ [(k : Int) + 1], by omega, by go_num, Kept.grown (HKR.out.alloc _) hg6 (fun q e => ?_), hown6, by rw [List.length_append, HRL.out]; rfl, fun p hp => ?_, (HOA.out.kept ((Kept.refl _).alloc _)).grownNe hg6 (fun q e => ?_), ?_⟩
      · exact (World.ownsRow.lt HOR.out q e).1
      · by_cases e : p = i
        · subst e
          refine ⟨k, hk, by rw [HKX.out, HLX.out], ?_⟩
          rw [List.getD_eq_getElem?_getD, List.getElem?_append_right (by rw [HRL.out]; exact Nat.le_refl _), HRL.out]
          simp
        · obtain ⟨k2, g1, g2, g3⟩ := HRK.out p (by omega)
          refine ⟨k2, g1, g2, ?_⟩
          rw [List.getD_eq_getElem?_getD, List.getElem?_append_left (by rw [HRL.out]; omega), ← List.getD_eq_getElem?_getD]
          exact g3
      · simp [Value.ownBlock] at e
        subst e
        exact fun e2 => HNB.out e2.symm
      · rcases hat6 with h | h
        · rw [h]; exact HNB.out
        · rw [h]; intro e; have := Option.some.inj e; have := HGL.out; simp at *; omega
/-- reading.Ranks at different days. -/
theorem Ranks_any (n : Nat) (l : List Int) (lo : Option Addr) (c : Nat) (w : World) (hl : Ints w lo l) (hln : l.length = n) (hn : n ≤ 12) (hnd : l.Nodup) : Calls Try.prog 8 #[.int .i64 n, .slice lo l.length c] w (RanksPost l w) := by
  by_cases h0 : l = []
  · subst h0
    subst hln
    exact Ranks_empty lo c w
  · obtain ⟨b, off, rfl, -⟩ := hl 0 (List.length_pos_iff.2 h0)
    exact Ranks_some n l b off c w hl hln hn h0 hnd
end Go.Proofs.Ytgmodcipbklejaa
