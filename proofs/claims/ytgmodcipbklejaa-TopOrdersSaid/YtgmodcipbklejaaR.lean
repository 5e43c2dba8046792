/- reading.Ranks: at different days. -/
import Derived.Test.YtgmodcipbklejaaM
import Derived.Laws.OwnMore
set_option maxRecDepth 100000
namespace Go.Proofs.Ytgmodcipbklejaa
open Go Go.Proofs Go.RowKit
attribute [local go_sem] Oper.semAt_some

/-- v is a slice of the call's own of the numbers l. -/
def OwnI (X : World) (base : Nat) (v : Value) (l : List Int) : Prop := X.ownsRow base 3 1 v l.length (l.map (.int .i64))
theorem OwnI.kept {X Y : World} {base : Nat} {v : Value} {l : List Int} (h : OwnI X base v l) (hk : Kept X Y) : OwnI Y base v l := by
  refine ⟨h.1, ?_⟩
  rcases h.2 with hn | ⟨g, cap, cur, rfl, hb, hgg, rest⟩
  · exact .inl hn
  · exact .inr ⟨g, cap, cur, rfl, hb, ((show Below X.heap.size X Y from hk).block g (Array.getElem?_eq_some_iff.1 hgg).1).trans hgg, rest⟩
theorem OwnI.nil (X : World) (base : Nat) : OwnI X base (.slice none 0 0) [] := World.ownsRow_nil X base 3 1
theorem OwnI.base' {X : World} {base base' : Nat} {v : Value} {l : List Int} (h : OwnI X base v l) (hb : base' ≤ base) : OwnI X base' v l := by
  refine ⟨h.1, ?_⟩
  rcases h.2 with hn | ⟨g, cap, cur, rfl, hb', rest⟩
  · exact .inl hn
  · exact .inr ⟨g, cap, cur, rfl, by omega, rest⟩
/-- Where it lies. -/
theorem OwnI.slice {X : World} {base : Nat} {v : Value} {l : List Int} (h : OwnI X base v l) : (l = [] ∧ v = .slice none 0 0) ∨ ∃ g c, v = .slice (some ⟨g, 0, none⟩) l.length c ∧ l.length ≤ c ∧ base ≤ g ∧ g < X.heap.size := by
  rcases h.2 with ⟨h1, h2⟩ | ⟨g, cap, cur, rfl, hbg, hgg, hnc, -⟩
  · exact .inl ⟨List.eq_nil_of_length_eq_zero (by simpa using h2), h1⟩
  · exact .inr ⟨g, cap, rfl, hnc, hbg, (Array.getElem?_eq_some_iff.1 hgg).1⟩
theorem OwnI.at {X : World} {base g c : Nat} {l : List Int} (h : OwnI X base (.slice (some ⟨g, 0, none⟩) l.length c) l) {i : Nat} (hi : i < l.length) : X.cell? ⟨g, i, none⟩ = some (.int .i64 l[i]) := by
  rw [World.ownsRow.cellAt h i (by simpa using hi), List.getElem?_map, List.getElem?_eq_getElem hi]
  rfl
theorem OwnI.ints {X : World} {base : Nat} {v : Value} {l : List Int} (h : OwnI X base v l) : ∃ ao c, v = .slice ao l.length c ∧ Ints X ao l ∧ l.length ≤ c := by
  rcases h.slice with ⟨rfl, rfl⟩ | ⟨g, c, rfl, hc, -, -⟩
  · exact ⟨none, 0, rfl, Ints.nil _ _, by simp⟩
  · exact ⟨_, c, rfl, fun i hi => ⟨g, 0, rfl, by rw [Nat.zero_add]; exact h.at hi⟩, hc⟩
theorem OwnI.set {X : World} {base g n c : Nat} {l : List Int} (h : OwnI X base (.slice (some ⟨g, 0, none⟩) n c) l) (hn : n = l.length) (i : Nat) (x : Int) : OwnI (X.setCell ⟨g, i, none⟩ (.int .i64 x)) base (.slice (some ⟨g, 0, none⟩) n c) (l.set i x) := by
  subst hn
  have := (World.ownsRow.stored h i (.int .i64 x)).1
  unfold OwnI
  rw [List.length_set, List.map_set]
  exact this

set_option maxHeartbeats 400000 in
theorem isNaN_any (x : Int) (w : World) : Calls Try.prog 50 #[.int .i64 x] w (Tells (.bool false) w) := by
  have e : (x != x) = false := by simp
  go_enter Try.func50, Try.ntmps50
  go_wp2
  go_ret
  exact ⟨rfl, rfl⟩
set_option maxHeartbeats 400000 in
theorem less_any (x y : Int) (w : World) : Calls Try.prog 70 #[.int .i64 x, .int .i64 y] w (Tells (.bool (decide (x < y))) w) := by
  go_enter Try.func70, Try.ntmps70
  go_wp2_with fail
  refine (isNaN_any x w).mono ?_
  rintro e w1 ⟨rfl, rfl⟩
  go_wp2
  go_ret
  exact ⟨rfl, rfl⟩
set_option maxHeartbeats 400000 in
theorem cmpI_any (x y : Int) (w : World) : Calls Try.prog 23 #[.int .i64 x, .int .i64 y] w (Tells (.int .i64 (if x < y then -1 else if y < x then 1 else 0)) w) := by
  obtain ⟨r, hr⟩ : ∃ r, (if x < y then (-1 : Int) else if y < x then 1 else 0) = r := ⟨_, rfl⟩
  rw [hr]
  have HR := Lib.hid hr
  clear hr
  go_enter Try.func23, Try.ntmps23
  go_wp2_with fail
  refine (isNaN_any x w).mono ?_
  rintro e w1 ⟨rfl, rfl⟩
  go_wp2_with fail
  refine (isNaN_any y w).mono ?_
  rintro e w1 ⟨rfl, rfl⟩
  by_cases h1 : x < y
  · have HR1 : Hid ((-1 : Int) = r) := Lib.hid (by rw [← HR.out, if_pos h1])
    have e1 : decide (x < y) = true := decide_eq_true h1
    clear h1 HR
    go_wp2
    go_ret
    exact ⟨ret_int HR1.out, rfl⟩
  · have e1 : decide (x < y) = false := decide_eq_false h1
    by_cases h2 : y < x
    · have HR1 : Hid ((1 : Int) = r) := Lib.hid (by rw [← HR.out, if_neg h1, if_pos h2])
      have e2 : decide (x > y) = true := decide_eq_true h2
      clear h1 h2 HR
      go_wp2
      go_ret
      exact ⟨ret_int HR1.out, rfl⟩
    · have HR1 : Hid ((0 : Int) = r) := Lib.hid (by rw [← HR.out, if_neg h1, if_neg h2])
      have e2 : decide (x > y) = false := decide_eq_false h2
      clear h1 h2 HR
      go_wp2
      go_ret
      exact ⟨ret_int HR1.out, rfl⟩
@[go_sem] theorem eql25_some (w : World) (a : Addr) (n c : Nat) : (binOp .eql 25 (.slice (some a) n c) (.slice none 0 0)).run Try.prog w = .ok (.bool false) w := Lib.run_eql_slice_nil w 25 3 (some a) n c 0 0 Try.underlying25
@[go_sem] theorem eql25_none (w : World) (n c : Nat) : (binOp .eql 25 (.slice none n c) (.slice none 0 0)).run Try.prog w = .ok (.bool true) w := Lib.run_eql_slice_nil w 25 3 none n c 0 0 Try.underlying25
theorem info3' : (Try.prog.info? 3).map (fun i => (i.zero, i.size, i.bytes)) = some (some (.int .i64 0), 1, 8) := by kernel_rfl
set_option maxHeartbeats 400000 in
/-- slices.Clone: where the numbers lie at an address. -/
theorem clone_some (l : List Int) (ad : Addr) (c : Nat) (w : World) (hl : ∀ j u, (l.map (Value.int .i64))[j]? = some u → w.cell? (ad.add j) = some u) (hlen : l.length < 1099511627776) :
    Calls Try.prog 19 #[.slice (some ad) l.length c] w (fun e w' => ∃ v, e = .returned v ∧ OwnI w' w.heap.size v l ∧ Kept w w') := by
  have hown : Hid ((w.alloc (.cells #[] 3)).ownsRow w.heap.size 3 1 (.slice (some ⟨w.heap.size, 0, none⟩) 0 0) 0 []) := ⟨by simp, .inr ⟨w.heap.size, 0, #[], rfl, Nat.le_refl _, heap_alloc_new w _, Nat.le_refl _, Nat.zero_le _, rfl, rfl⟩⟩
  have hnews : Hid (∀ (j : Nat) (u : Value), (l.map (Value.int .i64))[j]? = some u → (w.alloc (.cells #[] 3)).cell? (ad.add j) = some u) := Lib.hid fun j u hu => by
    have := hl j u hu
    have hb := World.block_lt_of_cell? w _ this
    rw [World.cell?_alloc_lt]
    · exact this
    · exact hb
  have HLEN := Lib.hid hlen
  obtain ⟨i0, hi, hz0, hz1, hz2⟩ := info_parts' info3'
  have HI := Lib.hid hi
  have HZ0 := Lib.hid hz0
  have HZ1 := Lib.hid hz1
  have HZ2 := Lib.hid hz2
  clear hl hlen hi hz0 hz1 hz2
  go_enter Try.func19, Try.ntmps19
  go_wp2_with (at_builtin; refine wpList_append_own _ rfl _ _ 25 rfl w.heap.size 3 i0 (.int .i64 0) 1 8 Try.underlying25 HI.out HZ0.out HZ1.out HZ2.out rfl (by decide) _ 0 _ rfl hown.out ad l.length c (l.map (Value.int .i64)) rfl (by simp) hnews.out (fun u hu => by obtain ⟨_, _, rfl⟩ := List.mem_map.1 hu; rfl) (by have := HLEN.out; unfold maxLen; omega) (by have := HLEN.out; omega) (by simp) ?_; intro v' w1 hown1 hg1 _; have HO1 := Lib.hid hown1; have HG1 := Lib.hid hg1; clear hown1 hg1)
  go_ret
  refine ⟨v', rfl, ?_, ?_⟩
  · have h := HO1.out
    unfold OwnI
    rw [Nat.zero_add, List.nil_append] at h
    exact h
  · exact Kept.grown ((Kept.refl w).alloc _) HG1.out (fun r e => by cases e; exact Nat.le_refl _)
set_option maxHeartbeats 400000 in
theorem clone_none (c : Nat) (w : World) : Calls Try.prog 19 #[.slice none 0 c] w (Tells (.slice none 0 0) w) := by
  go_enter Try.func19, Try.ntmps19
  go_wp2
  go_ret
  exact ⟨rfl, rfl⟩

/-! ### The insertion sort -/
/-- l is a rearrangement of l0 whose first i elements ascend. -/
def Asc (l : List Int) (i : Nat) : Prop := ∀ p q, p < q → q < i → q < l.length → l.getD p 0 ≤ l.getD q 0
/-- .. whose first i + 1 elements ascend but for the one at j, which is less than all behind it. -/
def AscBut (l : List Int) (i j : Nat) : Prop := (∀ p q, p < q → q ≤ i → q < l.length → p ≠ j → q ≠ j → l.getD p 0 ≤ l.getD q 0) ∧ ∀ q, j < q → q ≤ i → q < l.length → l.getD j 0 ≤ l.getD q 0
def swapL (l : List Int) (j : Nat) : List Int := (l.set j (l.getD (j - 1) 0)).set (j - 1) (l.getD j 0)
theorem swap_len (l : List Int) (j : Nat) : (swapL l j).length = l.length := by simp [swapL]
theorem swap_get {l : List Int} {j : Nat} (h1 : 1 ≤ j) (h2 : j < l.length) (q : Nat) : (swapL l j).getD q 0 = if q = j - 1 then l.getD j 0 else if q = j then l.getD (j - 1) 0 else l.getD q 0 := by
  unfold swapL
  simp only [List.getD_eq_getElem?_getD, List.getElem?_set, List.length_set]
  by_cases e1 : q = j - 1
  · subst e1
    simp [show j - 1 < l.length by omega]
  · have e1' : ¬ (j - 1 = q) := fun e => e1 e.symm
    rw [if_neg e1', if_neg e1]
    by_cases e2 : q = j
    · subst e2
      simp [h2]
    · have e2' : ¬ (j = q) := fun e => e2 e.symm
      rw [if_neg e2', if_neg e2]
theorem perm_swap {l : List Int} {j : Nat} (h1 : 1 ≤ j) (h2 : j < l.length) : (swapL l j).Perm l := by
  obtain ⟨k, rfl⟩ : ∃ k, j = k + 1 := ⟨j - 1, by omega⟩
  unfold swapL
  simp only [Nat.add_sub_cancel]
  induction l generalizing k with
  | nil => simp at h2
  | cons x l ih =>
    cases k with
    | zero =>
      cases l with
      | nil => simp at h2
      | cons y l => simpa using List.Perm.swap x y l
    | succ k =>
      have := ih k (by omega) (by simpa using h2)
      simpa using this
theorem asc_start (l : List Int) : Asc l 1 := fun p q h1 h2 => by omega
theorem asc_in {l : List Int} {i : Nat} (h : Asc l i) : AscBut l i i := ⟨fun p q h1 h2 h3 _ h5 => h p q h1 (by omega) h3, fun q h1 h2 => by omega⟩
theorem asc_out {l : List Int} {i j : Nat} (h : AscBut l i j) (hj : j ≤ i) (hs : j = 0 ∨ ¬ l.getD j 0 < l.getD (j - 1) 0) (_hil : i < l.length) : Asc l (i + 1) := by
  intro p q h1 h2 h3
  by_cases e1 : p = j
  · subst e1; exact h.2 q h1 (by omega) h3
  · by_cases e2 : q = j
    · subst e2
      rcases hs with hs | hs
      · omega
      · by_cases e3 : p = q - 1
        · subst e3; omega
        · have := h.1 p (q - 1) (by omega) (by omega) (by omega) e1 (by omega)
          omega
    · exact h.1 p q h1 (by omega) h3 e1 e2
theorem asc_step {l : List Int} {i j : Nat} (h : AscBut l i j) (hj : 1 ≤ j) (hji : j ≤ i) (hil : i < l.length) (hs : l.getD j 0 < l.getD (j - 1) 0) : AscBut (swapL l j) i (j - 1) := by
  refine ⟨fun p q h1 h2 h3 h4 h5 => ?_, fun q h1 h2 h3 => ?_⟩
  · rw [swap_len] at h3
    rw [swap_get hj (by omega), swap_get hj (by omega), if_neg h4, if_neg h5]
    by_cases e1 : p = j
    · rw [if_pos e1, if_neg (by omega)]
      exact h.1 (j - 1) q (by omega) h2 h3 (by omega) (by omega)
    · rw [if_neg e1]
      by_cases e2 : q = j
      · rw [if_pos e2]
        exact h.1 p (j - 1) (by omega) (by omega) (by omega) e1 (by omega)
      · rw [if_neg e2]
        exact h.1 p q h1 h2 h3 e1 e2
  · rw [swap_len] at h3
    rw [swap_get hj (by omega), swap_get hj (by omega), if_pos rfl, if_neg (by omega)]
    by_cases e2 : q = j
    · rw [if_pos e2]; omega
    · rw [if_neg e2]
      exact h.2 q (by omega) h2 h3
def SortPost (l : List Int) (g c base : Nat) (w : World) (e : Ending) (w' : World) : Prop := ∃ l', e = .returned (.tuple #[]) ∧ l'.Perm l ∧ Asc l' l.length ∧ OwnI w' base (.slice (some ⟨g, 0, none⟩) l.length c) l' ∧ w.grownBy w' (some g)
theorem grownBy_same (w : World) (r : Option Nat) : w.grownBy w r := ⟨rfl, rfl, rfl, Nat.le_refl _, fun _ _ _ => rfl⟩
theorem grownBy_drew {a b : World} {r : Option Nat} (h : a.grownBy b r) : a.grownBy b.drew r := ⟨h.os, h.tape, h.output, h.size, h.block⟩
theorem grownBy_cell {a b : World} {g : Nat} (h : a.grownBy b (some g)) (o : Nat) (v : Value) : a.grownBy (b.setCell ⟨g, o, none⟩ v) (some g) :=
  ⟨h.os, h.tape, h.output, Nat.le_trans h.size (Nat.le_of_eq (World.size_setCell ..).symm), fun i hi hn => (Below.heap_setCell b _ v i (fun e => hn (by rw [e]))).trans (h.block i hi hn)⟩
theorem grownBy_chain {a b c : World} {g : Nat} (h : a.grownBy b (some g)) (k : b.grownBy c (some g)) : a.grownBy c (some g) :=
  ⟨k.os.trans h.os, k.tape.trans h.tape, k.output.trans h.output, Nat.le_trans h.size k.size, fun i hi hn => (k.block i (Nat.lt_of_lt_of_le hi h.size) hn).trans (h.block i hi hn)⟩
set_option maxHeartbeats 2000000 in
theorem insertion_any (l : List Int) (g c base : Nat) (w : World) (h : OwnI w base (.slice (some ⟨g, 0, none⟩) l.length c) l) (hl : l.length ≤ 12) :
    Calls Try.prog 64 #[.slice (some ⟨g, 0, none⟩) l.length c, .int .i64 0, .int .i64 l.length] w (SortPost l g c base w) := by
  have H := Lib.hid h
  clear h
  go_enter Try.func64, Try.ntmps64
  go_wp2_with fail
  go_loopw [6] (fun iv wr => ∃ (i : Nat) (cur : List Int), 1 ≤ i ∧ (i ≤ l.length ∨ i = 1) ∧ iv = .int .i64 i ∧ cur.length = l.length ∧ cur.Perm l ∧ Asc cur i ∧ OwnI wr base (.slice (some ⟨g, 0, none⟩) l.length c) cur ∧ w.grownBy wr (some g)) (fun iv _ => l.length - (intOf iv).toNat)
  case atStart => exact ⟨1, l, by omega, by omega, rfl, rfl, List.Perm.refl _, asc_start l, H.out, grownBy_same _ _⟩
  case round =>
    obtain ⟨i, cur, hi1, hi2, rfl, hcl, hp, ha, ho, hg⟩ := hrel
    have HCL := Lib.hid hcl
    have HP := Lib.hid hp
    have HA := Lib.hid ha
    have HO := Lib.hid ho
    have HG := Lib.hid hg
    clear hcl hp ha ho hg
    by_cases hlt : i < l.length
    case neg =>
      go_wp2
      refine bodyPost_ret (results_none rfl _ _ _) rfl ⟨cur, rfl, HP.out, fun p q h1 h2 h3 => ?_, HO.out, HG.out⟩
      exact HA.out p q h1 (by omega) h3
    go_wp2_with fail
    go_loopw [7] (fun jv wr => ∃ (j : Nat) (cur : List Int), j ≤ i ∧ jv = .int .i64 j ∧ cur.length = l.length ∧ cur.Perm l ∧ AscBut cur i j ∧ OwnI wr base (.slice (some ⟨g, 0, none⟩) l.length c) cur ∧ w.grownBy wr (some g)) (fun jv _ => (intOf jv).toNat)
    case atStart => exact ⟨i, cur, by omega, rfl, HCL.out, HP.out, asc_in HA.out, HO.out, HG.out⟩
    case round =>
      clear HCL HP HA HO HG
      obtain ⟨j, cur, hj, rfl, hcl, hp, ha, ho, hg⟩ := hrel
      have HCL := Lib.hid hcl
      have HP := Lib.hid hp
      have HA := Lib.hid ha
      have HO := Lib.hid ho
      have HG := Lib.hid hg
      clear hcl hp ha ho hg
      by_cases hj0 : 0 < j
      case neg =>
        have hd : decide (0 < j) = false := decide_eq_false hj0
        go_wp2
        refine region_tail 14 (by kernel_rfl) (by kernel_rfl) ?_
        simp only [List.take_succ_cons, List.take_zero, List.drop_succ_cons, List.drop_zero]
        iterate 4
          with_reducible refine wpStill_want ?_ (fun K hK => ?_)
          · rfl
          go_simp
          refine hK _ ?_
          clear hK K
        iterate 10
          with_reducible refine wpStill_skip ?_ ?_
          · rfl
          simp only [Act.put, List.setIfInBounds_toArray, List.set_cons_zero, List.set_cons_succ]
        refine wpStill_nil ?_
        go_wp2
        go_roundw
        case measure => simp [intOf]; omega
        case rel => exact ⟨i + 1, cur, by omega, by omega, by go_num, HCL.out, HP.out, asc_out HA.out hj (.inl (by omega)) (by rw [HCL.out]; exact hlt), HO.out, grownBy_drew HG.out⟩
      obtain ⟨k, hk⟩ : ∃ k, j - 1 = k := ⟨_, rfl⟩
      have hwk : IntKind.i64.wrap ((j : Int) - 1) = (k : Int) := by rw [IntWalk.i64_in _ (by omega)]; omega
      have hkl : k < l.length := by omega
      have hjl : j < l.length := by omega
      have HKJ := Lib.hid hk
      obtain ⟨x, hx⟩ : ∃ x, cur.getD j 0 = x := ⟨_, rfl⟩
      obtain ⟨y, hy⟩ : ∃ y, cur.getD k 0 = y := ⟨_, rfl⟩
      have cj : wr.cell? ⟨g, j, none⟩ = some (.int .i64 x) := by
        have hq : j < cur.length := by rw [HCL.out]; exact hjl
        have := OwnI.at (by have := HO.out; rw [← HCL.out] at this; exact this) hq
        rw [← hx, getD_get hq]
        exact this
      have ck : wr.cell? ⟨g, k, none⟩ = some (.int .i64 y) := by
        have hq : k < cur.length := by rw [HCL.out]; exact hkl
        have := OwnI.at (by have := HO.out; rw [← HCL.out] at this; exact this) hq
        rw [← hy, getD_get hq]
        exact this
      have hgl := lt_of_cell cj
      have HX := Lib.hid hx
      have HY := Lib.hid hy
      have hfz : ∀ o, wr.frozen? ⟨g, o, none⟩ = false := fun o => World.ownsRow.frozenAt (by have := HO.out; unfold OwnI at this; rw [HCL.out] at this; exact this) o
      have fj := hfz j
      have fk := hfz k
      have hne : ¬ (j = k) := by omega
      have hne2 : ¬ (k = j) := by omega
      clear hk hx hy hfz
      go_wp2
      refine region_tail 14 (by kernel_rfl) (by kernel_rfl) ?_
      simp only [List.take_succ_cons, List.take_zero, List.drop_succ_cons, List.drop_zero]
      iterate 13
        with_reducible refine wpStill_want ?_ (fun K hK => ?_)
        · rfl
        go_simp
        refine hK _ ?_
        clear hK K
      still_call Calls_still (less_any _ _ _)
      refine wpStill_nil ?_
      by_cases hxy : x < y
      case neg =>
        have hd : decide (x < y) = false := decide_eq_false hxy
        have HXY := Lib.hid hxy
        clear hxy
        go_wp2
        go_roundw
        case measure => simp [intOf]; omega
        case rel => exact ⟨i + 1, cur, by omega, by omega, by go_num, HCL.out, HP.out, asc_out HA.out hj (.inr (by rw [HKJ.out, HX.out, HY.out]; exact HXY.out)) (by rw [HCL.out]; exact hlt), HO.out, grownBy_drew HG.out⟩
      have hd : decide (x < y) = true := decide_eq_true hxy
      have HXY := Lib.hid hxy
      clear hxy
      go_wp2
      go_region_with (fail)
      all_goals go_wp2
      all_goals
        have hsw : swapL cur j = (cur.set j y).set k x := by unfold swapL; rw [HKJ.out, HX.out, HY.out]
        have hasc := asc_step HA.out hj0 hj (by rw [HCL.out]; exact hlt) (by rw [HKJ.out, HX.out, HY.out]; exact HXY.out)
        rw [HKJ.out] at hasc
        have hkj := HKJ.out
        refine ⟨⟨k, swapL cur j, by omega, rfl, by rw [swap_len]; exact HCL.out, (perm_swap hj0 (by rw [HCL.out]; exact hjl)).trans HP.out, hasc, ?_, ?_⟩, by simp [intOf]; omega⟩
        · rw [hsw]
          exact (HO.out.set HCL.out.symm j y).set (by rw [List.length_set]; exact HCL.out.symm) k x
        · exact grownBy_drew (grownBy_drew (grownBy_cell (grownBy_cell HG.out j (.int .i64 y)) k (.int .i64 x)))
def LenPost (w : World) (e : Ending) (w' : World) : Prop := ∃ x : Int, e = .returned (.int .i64 x) ∧ w = w'
set_option maxHeartbeats 1000000 in
theorem len64_0 (w : World) : Calls Try.prog 74 #[.int .u64 0] w (LenPost w) := by
  go_enter Try.func74, Try.ntmps74
  go_wp2
  go_ret
  exact ⟨_, rfl, rfl⟩
set_option maxHeartbeats 1000000 in
theorem len64_1 (w : World) : Calls Try.prog 74 #[.int .u64 1] w (LenPost w) := by
  go_enter Try.func74, Try.ntmps74
  go_wp2
  go_ret
  exact ⟨_, rfl, rfl⟩
set_option maxHeartbeats 1000000 in
theorem len64_2 (w : World) : Calls Try.prog 74 #[.int .u64 2] w (LenPost w) := by
  go_enter Try.func74, Try.ntmps74
  go_wp2
  go_ret
  exact ⟨_, rfl, rfl⟩
set_option maxHeartbeats 1000000 in
theorem len64_3 (w : World) : Calls Try.prog 74 #[.int .u64 3] w (LenPost w) := by
  go_enter Try.func74, Try.ntmps74
  go_wp2
  go_ret
  exact ⟨_, rfl, rfl⟩
set_option maxHeartbeats 1000000 in
theorem len64_4 (w : World) : Calls Try.prog 74 #[.int .u64 4] w (LenPost w) := by
  go_enter Try.func74, Try.ntmps74
  go_wp2
  go_ret
  exact ⟨_, rfl, rfl⟩
set_option maxHeartbeats 1000000 in
theorem len64_5 (w : World) : Calls Try.prog 74 #[.int .u64 5] w (LenPost w) := by
  go_enter Try.func74, Try.ntmps74
  go_wp2
  go_ret
  exact ⟨_, rfl, rfl⟩
set_option maxHeartbeats 1000000 in
theorem len64_6 (w : World) : Calls Try.prog 74 #[.int .u64 6] w (LenPost w) := by
  go_enter Try.func74, Try.ntmps74
  go_wp2
  go_ret
  exact ⟨_, rfl, rfl⟩
set_option maxHeartbeats 1000000 in
theorem len64_7 (w : World) : Calls Try.prog 74 #[.int .u64 7] w (LenPost w) := by
  go_enter Try.func74, Try.ntmps74
  go_wp2
  go_ret
  exact ⟨_, rfl, rfl⟩
set_option maxHeartbeats 1000000 in
theorem len64_8 (w : World) : Calls Try.prog 74 #[.int .u64 8] w (LenPost w) := by
  go_enter Try.func74, Try.ntmps74
  go_wp2
  go_ret
  exact ⟨_, rfl, rfl⟩
set_option maxHeartbeats 1000000 in
theorem len64_9 (w : World) : Calls Try.prog 74 #[.int .u64 9] w (LenPost w) := by
  go_enter Try.func74, Try.ntmps74
  go_wp2
  go_ret
  exact ⟨_, rfl, rfl⟩
set_option maxHeartbeats 1000000 in
theorem len64_10 (w : World) : Calls Try.prog 74 #[.int .u64 10] w (LenPost w) := by
  go_enter Try.func74, Try.ntmps74
  go_wp2
  go_ret
  exact ⟨_, rfl, rfl⟩
set_option maxHeartbeats 1000000 in
theorem len64_11 (w : World) : Calls Try.prog 74 #[.int .u64 11] w (LenPost w) := by
  go_enter Try.func74, Try.ntmps74
  go_wp2
  go_ret
  exact ⟨_, rfl, rfl⟩
set_option maxHeartbeats 1000000 in
theorem len64_12 (w : World) : Calls Try.prog 74 #[.int .u64 12] w (LenPost w) := by
  go_enter Try.func74, Try.ntmps74
  go_wp2
  go_ret
  exact ⟨_, rfl, rfl⟩
theorem len64_any (n : Nat) (h : n ≤ 12) (w : World) : Calls Try.prog 74 #[.int .u64 n] w (LenPost w) := by
  match n, h with
  | 0, _ => exact len64_0 w
  | 1, _ => exact len64_1 w
  | 2, _ => exact len64_2 w
  | 3, _ => exact len64_3 w
  | 4, _ => exact len64_4 w
  | 5, _ => exact len64_5 w
  | 6, _ => exact len64_6 w
  | 7, _ => exact len64_7 w
  | 8, _ => exact len64_8 w
  | 9, _ => exact len64_9 w
  | 10, _ => exact len64_10 w
  | 11, _ => exact len64_11 w
  | 12, _ => exact len64_12 w
set_option maxHeartbeats 1000000 in
theorem len_any (n : Nat) (h : n ≤ 12) (w : World) : Calls Try.prog 49 #[.int .u64 n] w (LenPost w) := by
  go_enter Try.func49, Try.ntmps49
  go_wp2_with fail
  refine (len64_any n h w).mono ?_
  rintro e w1 ⟨x, rfl, rfl⟩
  go_wp2
  go_ret
  exact ⟨x, rfl, rfl⟩
set_option maxHeartbeats 1000000 in
theorem pdq_any (l : List Int) (g c base : Nat) (lim : Int) (w : World) (h : OwnI w base (.slice (some ⟨g, 0, none⟩) l.length c) l) (hl : l.length ≤ 12) :
    Calls Try.prog 48 #[.slice (some ⟨g, 0, none⟩) l.length c, .int .i64 0, .int .i64 l.length, .int .i64 lim] w (SortPost l g c base w) := by
  have H := Lib.hid h
  clear h
  have hli : (l.length : Int) ≤ 12 := by omega
  go_enter Try.func48, Try.ntmps48
  go_wp2
  go_loopw [1, 2] (fun i j wr => i = .int .i64 0 ∧ j = .int .i64 l.length ∧ wr = w) (fun _ _ _ => 0)
  case atStart => exact ⟨rfl, rfl, rfl⟩
  case round =>
    obtain ⟨rfl, rfl, rfl⟩ := hrel
    go_wp2_with fail
    refine (insertion_any l g c base wr H.out hl).mono ?_
    rintro e w1 ⟨l', rfl, hp, ha, ho, hg⟩
    have HPO := Lib.hid (show SortPost l g c base wr (.returned (.tuple #[])) w1 from ⟨l', rfl, hp, ha, ho, hg⟩)
    clear hp ha ho hg
    go_wp2
    exact bodyPost_ret (results_none rfl _ _ _) rfl HPO.out
set_option maxHeartbeats 1000000 in
theorem sort_any (l : List Int) (g c base : Nat) (w : World) (h : OwnI w base (.slice (some ⟨g, 0, none⟩) l.length c) l) (hl : l.length ≤ 12) :
    Calls Try.prog 20 #[.slice (some ⟨g, 0, none⟩) l.length c] w (SortPost l g c base w) := by
  have H := Lib.hid h
  clear h
  go_enter Try.func20, Try.ntmps20
  go_wp2_with fail
  refine (len_any l.length hl w).mono ?_
  rintro e w1 ⟨x, rfl, rfl⟩
  go_wp2_with fail
  refine (pdq_any l g c base x w H.out hl).mono ?_
  rintro e w1 ⟨l', rfl, hp, ha, ho, hg⟩
  have HPO := Lib.hid (show SortPost l g c base w (.returned (.tuple #[])) w1 from ⟨l', rfl, hp, ha, ho, hg⟩)
  clear hp ha ho hg
  go_wp2
  exact bodyPost_ret (results_none rfl _ _ _) rfl HPO.out
end Go.Proofs.Ytgmodcipbklejaa
