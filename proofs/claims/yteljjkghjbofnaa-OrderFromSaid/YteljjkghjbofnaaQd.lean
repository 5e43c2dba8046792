/- order.listed: the pairs of a map, in ascending order. -/
import Derived.Test.YteljjkghjbofnaaQc
import Derived.Test.YteljjkghjbofnaaLi
set_option maxRecDepth 100000
namespace Go.Proofs.Yteljjkghjbofnaa
open Go Go.Proofs Go.RowKit
open Go.Maps (Keyed)
attribute [local go_sem] Oper.semAt_some

/-- Block b is a map that holds the pairs A. -/
def PMap (X : World) (b n : Nat) (A : List (Int × Int)) : Prop :=
  ∃ D : DataW Unit, X.ownsMap Try.prog 83 (plainElem Try.prog 4) b n D ∧ (∀ x ∈ A, wfI x.1 ∧ wfI x.2) ∧ ∀ x : Int × Int, wfI x.1 → wfI x.2 → (Maps.has D (litP x) = true ↔ x ∈ A)
theorem litP_inj {x y : Int × Int} (hx1 : wfI x.1) (hx2 : wfI x.2) (hy1 : wfI y.1) (hy2 : wfI y.2) (h : litP x = litP y) : x = y := by
  have k1 := keyOf_pair hx1 hx2
  have k2 := keyOf_pair hy1 hy2
  have e : litP (x.1, x.2) = litP (y.1, y.2) := h
  rw [e] at k1
  have := keyed83.inj k1 k2
  simp at this
  exact Prod.ext this.1 this.2
theorem litP_key (x : Int × Int) : WideAt.IsKeyLit (litP x) := trivial
theorem PMap.made (X : World) : PMap (X.alloc (.map #[] 0)) X.heap.size 0 [] :=
  ⟨.map [], World.ownsMap_made X Try.prog 83 (plainElem Try.prog 4), fun x h => (by cases h), fun x _ _ => by simp [Maps.has]⟩
theorem put_has {D : DataW Unit} {A : List (Int × Int)} {y : Int × Int} {d : DataW Unit} (hm : Maps.IsMap D) (hA : ∀ x : Int × Int, wfI x.1 → wfI x.2 → (Maps.has D (litP x) = true ↔ x ∈ A)) (h1 : wfI y.1) (h2 : wfI y.2) (x : Int × Int) (hx1 : wfI x.1) (hx2 : wfI x.2) : Maps.has (D.put (litP y) d) (litP x) = true ↔ x ∈ y :: A := by
  by_cases e : x = y
  · subst e
    simp [Maps.has_put_same hm (litP_key x) d]
  · rw [Maps.has_put_other (fun h => e (litP_inj hx1 hx2 h1 h2 h)) d, hA x hx1 hx2]
    simp [e]
theorem inv_key (key : Value) (kl : Lit) (h : keyOf Try.prog 83 key = some kl) : ∃ x : Int × Int, key = (fun x : Int × Int => Value.agg #[.int .i64 x.1, .int .i64 x.2]) x := by
  obtain ⟨x, e, -, -⟩ := keyOf_pair_inv h
  exact ⟨x, e⟩
theorem inv_bool (v : Value) (y : DataW Unit × List MemPlace) (h : plainElem Try.prog 4 v = some y) : ∃ c : Bool, v = Value.bool c := by
  unfold plainElem at h
  cases v <;> simp [Try.underlying4] at h
  exact ⟨_, rfl⟩

set_option maxHeartbeats 1000000 in
theorem len64_zero (w : World) : Calls Try.prog 165 #[.int .u64 0] w (Tells (.int .i64 0) w) := by
  go_enter Try.func165, Try.ntmps165
  go_wp2
  go_ret
  exact ⟨ret_int (by decide +kernel), rfl⟩
set_option maxHeartbeats 1000000 in
theorem len_zero (w : World) : Calls Try.prog 154 #[.int .u64 0] w (Tells (.int .i64 0) w) := by
  go_enter Try.func154, Try.ntmps154
  go_wp2_with fail
  refine (len64_zero w).mono ?_
  rintro e w1 ⟨rfl, rfl⟩
  go_wp2
  go_ret
  exact ⟨rfl, rfl⟩
set_option maxHeartbeats 1000000 in
theorem insert_nil (w : World) : Calls Try.prog 156 #[.slice none 0 0, .int .i64 0, .int .i64 0, .func (.func 81) #[] #[]] w (Tells (.tuple #[]) w) := by
  go_enter Try.func156, Try.ntmps156
  go_wp2
  go_loop [8] (fun i => i = .int .i64 1) (fun _ => 0)
  case atStart => rfl
  case round =>
    subst hrel
    go_wp2
    exact bodyPost_ret (results_none rfl _ _ _) rfl ⟨rfl, rfl⟩
set_option maxHeartbeats 1000000 in
theorem pdq_nil (w : World) : Calls Try.prog 153 #[.slice none 0 0, .int .i64 0, .int .i64 0, .int .i64 0, .func (.func 81) #[] #[]] w (Tells (.tuple #[]) w) := by
  go_enter Try.func153, Try.ntmps153
  go_wp2
  go_loop [1, 2] (fun i j => i = .int .i64 0 ∧ j = .int .i64 0) (fun _ _ => 0)
  case atStart => exact ⟨rfl, rfl⟩
  case round =>
    obtain ⟨rfl, rfl⟩ := hrel
    go_wp2_with fail
    refine (insert_nil w).mono ?_
    rintro e w1 ⟨rfl, rfl⟩
    go_wp2
    exact bodyPost_ret (results_none rfl _ _ _) rfl ⟨rfl, rfl⟩
set_option maxHeartbeats 1000000 in
theorem sortP_nil (w : World) : Calls Try.prog 137 #[.slice none 0 0, .func (.func 81) #[] #[]] w (Tells (.tuple #[]) w) := by
  go_enter Try.func137, Try.ntmps137
  go_wp2_with fail
  refine (len_zero w).mono ?_
  rintro e w1 ⟨rfl, rfl⟩
  go_wp2_with fail
  refine (pdq_nil w).mono ?_
  rintro e w1 ⟨rfl, rfl⟩
  go_wp2
  exact bodyPost_ret (results_none rfl _ _ _) rfl ⟨rfl, rfl⟩
theorem ris_of_sorted {l : List (Int × Int)} (hs : SortedP l) (hn : l.Nodup) : risB l = true := by
  rw [risB_pw]
  exact (hs.and hn).imp fun h => cmpP_tri h.1 (Ne.symm h.2)
theorem pair_two (w : World) (a b : Int) {o : Obj} {g : Nat} (hg : g = w.heap.size + 1) : ((w.alloc o).alloc (.cells #[.int .i64 a, .int .i64 b] 83)).cell? ⟨g, 0, none⟩ = some (.int .i64 a) ∧ ((w.alloc o).alloc (.cells #[.int .i64 a, .int .i64 b] 83)).cell? ⟨g, 1, none⟩ = some (.int .i64 b) := by
  have hh := heap_alloc_new (w.alloc o) (.cells #[.int .i64 a, .int .i64 b] 83)
  have e : (w.alloc o).heap.size = g := by rw [hg]; simp
  rw [e] at hh
  unfold World.cell?
  simp only []
  rw [hh]
  exact ⟨rfl, rfl⟩

set_option maxHeartbeats 4000000 in
theorem listed_any (b n : Nat) (A : List (Int × Int)) (w : World) (h : PMap w b n A) (hAl : A.length ≤ 1000) :
    Calls Try.prog 132 #[.map (some b)] w (fun e w' => ∃ v l, e = .returned v ∧ OwnG w' w.heap.size 83 2 pairC v l ∧ risB l = true ∧ (∀ x, x ∈ l ↔ x ∈ A) ∧ Kept w w') := by
  obtain ⟨D, hown, hwf, hhas⟩ := h
  have hbl := hown.lt
  have HOWN := Lib.hid hown
  have HHAS := Lib.hid hhas
  have HWF := Lib.hid hwf
  clear hwf hhas hown
  go_enter Try.func132, Try.ntmps132
  go_wp2_with (first | (at_range; refine wpList_range_own _ rfl _ _ rfl 83 4 keyed83 Try.underlying139 _ b n D rfl HOWN.out ?_; intro w0 hrg0 hg0 hs0) | fail)
  have HK0 := Lib.hid (Kept.grown (Kept.refl w) hg0 (fun r e => by cases e))
  have HS0 := Lib.hid hs0
  clear hg0 hs0
  go_frame
  go_loopw [3] (fun v wr => ∃ (left : Lit → Bool) (cnt : Nat) (L : List (Int × Int)), wr.ranges Try.prog 83 (plainElem Try.prog 4) b w.heap.size n D left cnt ∧ OwnG wr (w.heap.size + 1) 83 2 pairC v L ∧ L.Nodup ∧ (∀ x ∈ L, wfI x.1 ∧ wfI x.2) ∧ (∀ x ∈ L, left (litP x) = false) ∧ (∀ x : Int × Int, wfI x.1 → wfI x.2 → (x ∈ A ↔ x ∈ L ∨ left (litP x) = true)) ∧ Kept w wr ∧ w.heap.size < wr.heap.size) (fun _ wr => wr.rangeLeft b w.heap.size)
  case atStart => exact ⟨_, _, [], hrg0, OwnG.nil _ _ _ _ _, List.nodup_nil, fun x h => (by cases h), fun x h => (by cases h), fun x h1 h2 => by rw [← HHAS.out x h1 h2]; simp, HK0.out, by have := HS0.out; omega⟩
  case round =>
    obtain ⟨left, cnt, L, hrg, hown, hnd, hwl, hfl, hal, hkr, hsr⟩ := hrel
    have HRG := Lib.hid hrg
    have HOW := Lib.hid hown
    have HND := Lib.hid hnd
    have HWL := Lib.hid hwl
    have HFL := Lib.hid hfl
    have HAL := Lib.hid hal
    have HKR := Lib.hid hkr
    have HSR := Lib.hid hsr
    have HLL : Hid (L.length ≤ 1000) := Lib.hid (by
      have := List.Nodup.length_le_of_subset hnd (fun x hx => (hal x (hwl x hx).1 (hwl x hx).2).2 (.inl hx))
      omega)
    clear hrg hown hnd hwl hfl hal hkr hsr
    go_wp2_with (first | (at_next; refine wpList_next_ranges _ rfl _ rfl 83 keyed83 (plainElem Try.prog 4) _ _ inv_key inv_bool b w.heap.size n D left cnt rfl HRG.out (fun hc0 hl0 => ?_) (fun x c kl y w1 cnt1 hkey hlk hR hat hrg1 hlt hg1 hs1 hen => ?_)) | (at_builtin; refine append_pair1 _ rfl _ _ rfl (w.heap.size + 1) _ L rfl ((HOW.out.grownNe hg1 (fun k hk e => by cases e; have := (HOW.out.lt _ hk).1; omega)).kept (((Kept.refl _).alloc _).alloc _)) _ x rfl (pair_two w1 x.1 x.2 (by omega)) (by have := HLL.out; omega) (by first | exact Nat.le_trans (Nat.succ_le_of_lt (by rw [hs1]; exact HSR.out)) (((Kept.refl w1).alloc _).alloc _).size | (have := HSR.out; simp; omega)) ?_; intro ra rc w2 hown2 hg2 hne2) | fail)
    · have HL0 : Hid (∀ x, x ∈ L ↔ x ∈ A) := Lib.hid fun x => by
        constructor
        · intro hx
          exact (HAL.out x (HWL.out x hx).1 (HWL.out x hx).2).2 (.inl hx)
        · intro hx
          rcases (HAL.out x (HWF.out x hx).1 (HWF.out x hx).2).1 hx with h | h
          · exact h
          · rw [hl0] at h; cases h
      clear hc0 hl0
      rcases HOW.out.slice pairC_len with ⟨e1, e2⟩ | ⟨g, c, e2, -, hbg, -, -, -⟩
      · subst e1
        subst e2
        go_wp2_with fail
        refine (sortP_nil wr).mono ?_
        rintro e w1 ⟨rfl, rfl⟩
        go_wp2
        go_ret
        exact ⟨_, [], rfl, OwnG.nil _ _ _ _ _, by simp [risB], HL0.out, HKR.out⟩
      · subst e2
        go_wp2_with fail
        refine (sortP_any (w.heap.size + 1) g c L wr HOW.out (by have := HLL.out; omega)).mono ?_
        rintro e w1 ⟨rfl, l', hp, hso, hown', hgr⟩
        have HR1 := Lib.hid (ris_of_sorted hso (hp.nodup_iff.2 HND.out))
        have HM1 : Hid (∀ x, x ∈ l' ↔ x ∈ A) := Lib.hid fun x => by rw [hp.mem_iff]; exact HL0.out x
        have HO1 := Lib.hid (hown'.base' (Nat.le_succ w.heap.size))
        have HK1 := Lib.hid (HKR.out.grown hgr (fun r e => by cases e; omega))
        have HLE : Hid (l'.length = L.length) := Lib.hid hp.length_eq
        clear hp hso hown' hgr
        go_wp2
        go_ret
        exact ⟨_, l', rfl, by rw [← HLE.out]; exact HO1.out, HR1.out, HM1.out, HK1.out⟩
    · have hx := keyOf_pair_inv hkey
      obtain ⟨x', e, h1, h2⟩ := hx
      simp at e
      have ex : x' = x := Prod.ext e.1.symm e.2.symm
      subst ex
      have ekl : kl = litP x' := by
        have := keyOf_pair h1 h2
        rw [this] at hkey
        simpa using hkey.symm
      subst ekl
      have hrow : ∀ bb, bb ≤ w.heap.size → some bb ≠ Value.ownBlock _ := fun bb hbb e => by
        have := (HOW.out.lt bb e.symm).1
        omega
      have hx0 : x' ∉ L := fun hm => by rw [HFL.out x' hm] at hlk; cases hlk
      have hrg2 := ((hrg1.alloc (.cells #[.int .i64 x'.1, .int .i64 x'.2] 83)).alloc (.cells #[.int .i64 x'.1, .int .i64 x'.2] 83)).kept hg2 (hrow b (by omega)) (hrow w.heap.size (Nat.le_refl _))
      refine ⟨⟨_, _, L ++ [x'], hrg2, hown2, ?_, ?_, ?_, ?_, ?_, ?_⟩, ?_⟩
      · rw [List.nodup_append]
        exact ⟨HND.out, by simp, fun a ha b hb e => by rw [List.mem_singleton.1 hb] at e; rw [e] at ha; exact hx0 ha⟩
      · intro z hz
        rcases List.mem_append.1 hz with hz | hz
        · exact HWL.out z hz
        · rw [List.mem_singleton.1 hz]; exact ⟨h1, h2⟩
      · intro z hz
        rcases List.mem_append.1 hz with hz | hz
        · simp [HFL.out z hz]
        · rw [List.mem_singleton.1 hz]; simp [WideAt.sameKey_self (litP_key x')]
      · intro z hz1 hz2
        rw [HAL.out z hz1 hz2]
        by_cases e2 : z = x'
        · subst e2; simp [hlk]
        · have hne : litP z ≠ litP x' := fun e3 => e2 (litP_inj hz1 hz2 h1 h2 e3)
          simp [e2, Maps.sameKey_ne hne]
      · exact ((Kept.grown HKR.out hg1 (fun r e => by cases e; exact Nat.le_refl _)).alloc _ |>.alloc _).grown hg2 (fun r e => by have := (HOW.out.lt r e).1; omega)
      · have h3 := hg2.size
        have h4 := (((Kept.refl w1).alloc (.cells #[.int .i64 x'.1, .int .i64 x'.2] 83)).alloc (.cells #[.int .i64 x'.1, .int .i64 x'.2] 83)).size
        have h5 := HSR.out
        omega
      · rw [hrg2.left_eq, HRG.out.left_eq]
        exact hlt
end Go.Proofs.Yteljjkghjbofnaa
