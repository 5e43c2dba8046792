/- order.Join's closure: the union of two lists of pairs, in order. -/
import Derived.Test.YteljjkghjbofnaaKb
import Derived.Test.YteljjkghjbofnaaKc
set_option maxRecDepth 100000
namespace Go.Proofs.Yteljjkghjbofnaa
open Go Go.Proofs Go.RowKit
attribute [local go_sem] Oper.semAt_some

set_option maxHeartbeats 1000000 in
theorem ins_nil (w : World) (f : Value) :
    Calls Try.prog 156 #[.slice none 0 0, .int .i64 0, .int .i64 0, f] w (fun e w' => e = .returned (.tuple #[]) ∧ w' = w) := by
  go_enter Try.func156, Try.ntmps156
  go_wp2
  go_loopg [8] 0 (fun gk s8 wr => s8 = .int .i64 1 ∧ wr = w)
  case atStart => exact ⟨rfl, rfl⟩
  case round =>
    obtain ⟨rfl, rfl⟩ := hrel
    go_wp2
    refine bodyPost_end (results_none rfl _ _ _) rfl ?_
    exact ⟨rfl, rfl⟩

set_option maxHeartbeats 1000000 in
theorem sort_nil (w : World) :
    Calls Try.prog 137 #[.slice none 0 0, .func (.func 81) #[] #[]] w (fun e w' => e = .returned (.tuple #[]) ∧ w' = w) := by
  go_enter Try.func137, Try.ntmps137
  go_wp2
  go_loopg [1, 2] 0 (fun gk s1 s2 wr => s1 = .int .i64 0 ∧ s2 = .int .i64 0 ∧ wr = w)
  case atStart => exact ⟨rfl, rfl, rfl⟩
  case round =>
    obtain ⟨rfl, rfl, rfl⟩ := hrel
    go_wp2_with fail
    refine (ins_nil _ _).mono ?_
    rintro e w' ⟨rfl, rfl⟩
    go_wp2
    refine bodyPost_ret (results_none rfl _ _ _) rfl ?_
    go_wp2
    refine bodyPost_end (results_none rfl _ _ _) rfl ?_
    exact ⟨rfl, rfl⟩
set_option maxHeartbeats 1000000 in
theorem comp_nil (w : World) :
    Calls Try.prog 138 #[.slice none 0 0] w (fun e w' => e = .returned (.slice none 0 0) ∧ w' = w) := by
  go_enter Try.func138, Try.ntmps138
  go_wp2
  go_ret
  exact ⟨rfl, rfl⟩

/-- m is the union of A and B, in strict order. -/
def UnionP (A B m : List (Int × Int)) : Prop := m.Pairwise (fun a b => cmpP a b < 0) ∧ ∀ x, x ∈ m ↔ x ∈ A ∨ x ∈ B

theorem cmpP_tri {x y : Int × Int} (h : ¬ cmpP y x < 0) (hne : y ≠ x) : cmpP x y < 0 := by
  rw [cmpP_lt] at *
  by_cases h1 : x.1 = y.1
  · by_cases h2 : x.2 = y.2
    · exact (hne (Prod.ext h1.symm h2.symm)).elim
    · omega
  · omega
theorem cmpP_trans' {x y z : Int × Int} (h : cmpP x y < 0) (k : cmpP y z < 0) : cmpP x z < 0 := by
  rw [cmpP_lt] at *
  omega
open Go.Lib in
theorem compact_sorted {d : Array (Int × Int)} (hs : SortedP d.toList) : ∀ m, m ≤ d.size → (compactUpTo d m).Pairwise (fun a b => cmpP a b < 0) ∧ (∀ x ∈ compactUpTo d m, x = d[m - 1]! ∨ cmpP x d[m - 1]! < 0) ∧ ∀ x, x ∈ compactUpTo d m ↔ ∃ j, j < m ∧ d[j]! = x
  | 0, _ => ⟨by simp [compactUpTo], by simp [compactUpTo], by simp [compactUpTo]⟩
  | m + 1, hm => by
    obtain ⟨h1, h2, h3⟩ := compact_sorted hs m (by omega)
    rw [compactUpTo_succ]
    by_cases hk : keeps d m = true
    · rw [if_pos hk]
      have hlt : ∀ x ∈ compactUpTo d m, cmpP x d[m]! < 0 := by
        intro x hx
        obtain ⟨j, hj, _⟩ := (h3 x).1 hx
        have hne : d[m]! ≠ d[m - 1]! := by
          have := of_decide_eq_true hk
          rcases this with h | h
          · omega
          · exact h
        have hle : ¬ cmpP d[m]! d[m - 1]! < 0 := by
          have := List.pairwise_iff_getElem.1 hs (m - 1) m (by simp; omega) (by simp; omega) (by omega)
          rw [getElem!_pos d m (by omega), getElem!_pos d (m - 1) (by omega)]
          simpa using this
        have h4 := cmpP_tri hle hne
        rcases h2 x hx with rfl | h
        · exact h4
        · exact cmpP_trans' h h4
      refine ⟨List.pairwise_append.2 ⟨h1, by simp, fun x hx y hy => ?_⟩, fun x hx => ?_, fun x => ?_⟩
      · obtain rfl : y = d[m]! := by simpa using hy
        exact hlt x hx
      · rcases List.mem_append.1 hx with h | h
        · exact .inr (hlt x h)
        · exact .inl (by simpa using h)
      · constructor
        · intro hx
          rcases List.mem_append.1 hx with h | h
          · obtain ⟨j, hj, e⟩ := (h3 x).1 h
            exact ⟨j, by omega, e⟩
          · exact ⟨m, by omega, (by simpa using h : x = d[m]!).symm⟩
        · rintro ⟨j, hj, e⟩
          by_cases hjm : j = m
          · subst hjm
            exact List.mem_append.2 (.inr (by simp [e]))
          · exact List.mem_append.2 (.inl ((h3 x).2 ⟨j, by omega, e⟩))
    · rw [if_neg hk, List.append_nil]
      have hm0 : m ≠ 0 ∧ d[m]! = d[m - 1]! := by
        unfold keeps at hk
        simpa using hk
      refine ⟨h1, fun x hx => ?_, fun x => ?_⟩
      · rw [Nat.add_sub_cancel, hm0.2]
        exact h2 x hx
      · rw [h3]
        constructor
        · rintro ⟨j, hj, e⟩
          exact ⟨j, by omega, e⟩
        · rintro ⟨j, hj, e⟩
          by_cases hjm : j = m
          · subst hjm
            exact ⟨j - 1, by omega, by rw [← hm0.2, e]⟩
          · exact ⟨j, by omega, e⟩
open Go.Lib in
theorem union_compact {A B l : List (Int × Int)} (hp : l.Perm (A ++ B)) (hs : SortedP l) : UnionP A B (compactUpTo l.toArray l.toArray.size) := by
  obtain ⟨h1, _, h3⟩ := compact_sorted (d := l.toArray) hs l.toArray.size (Nat.le_refl _)
  refine ⟨h1, fun x => ?_⟩
  rw [h3, ← List.mem_append, ← hp.mem_iff]
  constructor
  · rintro ⟨j, hj, e⟩
    rw [getElem!_pos l.toArray j hj] at e
    rw [← e]
    simp
  · intro hx
    obtain ⟨j, hj, e⟩ := List.getElem_of_mem hx
    exact ⟨j, by simpa using hj, by rw [getElem!_pos l.toArray j (by simpa using hj)]; simpa using e⟩

open Go.Lib in
theorem Compact_n (base g c n : Nat) (d : Array (Int × Int)) (w : World) (hn : d.size = n) (h : OwnG w base 83 2 pairC (.slice (some ⟨g, 0, none⟩) n c) d.toList) (hl : d.size < 100000) :
    Calls Try.prog 138 #[.slice (some ⟨g, 0, none⟩) n c] w (fun e w' => ∃ v, e = .returned v ∧ OwnG w' base 83 2 pairC v (compactUpTo d d.size) ∧ w.grownBy w' (some g)) := by
  subst hn
  exact Compact_any base g c d w h hl
set_option maxHeartbeats 1000000 in
theorem JoinC_any (A B : List (Int × Int)) (ao bo : Option Addr) (ca cb : Nat) (w : World) (hA : Pairs w ao A) (hB : Pairs w bo B) (hna : ao = none → ca = 0) (hnb : bo = none → cb = 0) (hla : A.length < 10000) (hlb : B.length < 10000) :
    Calls Try.prog 135 #[.slice ao A.length ca, .slice bo B.length cb] w (fun e w' => ∃ v m, e = .returned v ∧ OwnG w' w.heap.size 83 2 pairC v m ∧ UnionP A B m ∧ Kept w w') := by
  have hk0 : Kept w (w.alloc (.cells #[Value.slice ao A.length ca, Value.slice bo B.length cb] 22)) := (Kept.refl w).alloc _
  have hc := Concat_any A B ao bo ca cb w.heap.size (w.alloc (.cells #[Value.slice ao A.length ca, Value.slice bo B.length cb] 22)) (hA.kept hk0) (hB.kept hk0) hna hnb
    (by unfold World.cell?; rw [show (w.alloc (.cells #[Value.slice ao A.length ca, Value.slice bo B.length cb] 22)).heap[w.heap.size]? = _ from heap_alloc_new w _]; rfl) (by unfold World.cell?; rw [show (w.alloc (.cells #[Value.slice ao A.length ca, Value.slice bo B.length cb] 22)).heap[w.heap.size]? = _ from heap_alloc_new w _]; rfl) hla hlb
  have HC := Lib.hid hc
  have HK0 := Lib.hid hk0
  have hab2 : A.length + B.length < 20000 := by omega
  have HAB := Lib.hid hab2
  clear hc hk0 hA hB hna hnb hab2
  go_enter Try.func135, Try.ntmps135
  go_wp2_with fail
  refine HC.out.mono ?_
  rintro e w1 ⟨v, rfl, hown, hk1⟩
  have HK1 := Lib.hid (HK0.out.trans hk1)
  have hsz : w.heap.size ≤ (w.alloc (.cells #[Value.slice ao A.length ca, Value.slice bo B.length cb] 22)).heap.size := HK0.out.size
  have HSZ := Lib.hid hsz
  obtain ⟨l, hl⟩ : ∃ l, l = A ++ B := ⟨_, rfl⟩
  rw [← hl] at hown
  have hll0 : l.length < 20000 := by rw [hl, List.length_append]; exact HAB.out
  have HEL := Lib.hid hl
  clear hk1 hsz hl
  rcases hown.2 with ⟨rfl, hnil⟩ | ⟨g, cap, cur, rfl, hbg, _⟩
  · have hab : A ++ B = [] := HEL.out.symm.trans (List.length_eq_zero_iff.1 hnil)
    obtain rfl : l = [] := List.length_eq_zero_iff.1 hnil
    have HN := Lib.hid hab
    have HO := Lib.hid hown
    clear hnil hab hown
    go_wp2_with fail
    refine (sort_nil _).mono ?_
    rintro e w2 ⟨rfl, rfl⟩
    go_wp2_with fail
    refine (comp_nil _).mono ?_
    rintro e w2 ⟨rfl, rfl⟩
    go_wp2
    go_ret
    refine ⟨_, [], rfl, OwnG.nil _ _ _ _ _, ?_, HK1.out⟩
    have h := List.append_eq_nil_iff.1 HN.out
    rw [h.1, h.2]
    exact ⟨List.Pairwise.nil, fun x => by simp⟩
  · have HBG := Lib.hid hbg
    have HO := Lib.hid hown
    clear hown hbg
    go_wp2_with fail
    refine (sortP_any _ g cap l _ HO.out (by omega)).mono ?_
    rintro e w2 ⟨rfl, l', hp, hs, ho, hg⟩
    have HP := Lib.hid hp
    have HS := Lib.hid hs
    have HO2 := Lib.hid ho
    have HK2 := Lib.hid (HK1.out.grown hg (fun r e => by cases e; exact Nat.le_trans HSZ.out HBG.out))
    have hle := hp.length_eq
    have HL := Lib.hid hle
    clear hp hs ho hg hle
    have hll : l'.toArray.size < 100000 := by rw [List.size_toArray, HL.out]; omega
    have hcc := Compact_n _ g cap l.length l'.toArray w2 HL.out (by rw [← HL.out]; exact HO2.out) hll
    have HCC := Lib.hid hcc
    clear hcc
    go_wp2_with fail
    refine HCC.out.mono ?_
    rintro e w3 ⟨v, rfl, ho, hg⟩
    have HO3 := Lib.hid ho
    have HK3 := Lib.hid (HK2.out.grown hg (fun r e => by cases e; exact Nat.le_trans HSZ.out HBG.out))
    clear ho hg
    go_wp2
    go_ret
    have hb := HSZ.out
    refine ⟨_, _, rfl, HO3.out.base' hb, union_compact ?_ HS.out, HK3.out⟩
    rw [← HEL.out]
    exact HP.out
end Go.Proofs.Yteljjkghjbofnaa
