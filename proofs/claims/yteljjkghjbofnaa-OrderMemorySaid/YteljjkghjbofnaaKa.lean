/- slices.SortFunc at pairs, by compare. -/
import Derived.Test.YteljjkghjbofnaaWi
import Derived.Shelf.SlSortCmp.WholeK
set_option maxRecDepth 100000

namespace Go.Proofs.Yteljjkghjbofnaa
open Go Go.Proofs Go.RowKit Go.Shelf Go.Sort

/-! The laying of slices.SortFunc at this dump, in plain words. -/
def sortPairs_ren : Go.Shelf.Ren := ⟨fun | 6 => 137 | 15 => 154 | 14 => 153 | 28 => 164 | 29 => 165 | 20 => 156 | 21 => 157 | 22 => 158 | 23 => 159 | 24 => 160 | 25 => 161 | 26 => 162 | 27 => 163 | 46 => 166 | 47 => 167 | 48 => 168 | 49 => 169 | 50 => 170 | 57 => 171 | n => n, fun | 22 => 22 | 24 => 83 | 25 => 100 | 3 => 3 | 39 => 127 | 0 => 0 | 53 => 92 | 55 => 175 | 4 => 4 | 46 => 169 | 45 => 168 | 50 => 157 | 5 => 5 | 9 => 9 | 66 => 176 | 70 => 180 | 76 => 182 | 77 => 183 | n => n, fun | n => n⟩
theorem sortPairs : Go.Proofs.SlLaysF0.n6 Try.prog sortPairs_ren := {
  mixed := by kernel_rfl,
  f6 := ⟨Try.f137.name, by decide, Try.func137.trans (congrArg some (by kernel_rfl))⟩,
  f14 := ⟨Try.f153.name, by decide, Try.func153.trans (congrArg some (by kernel_rfl))⟩,
  f15 := Try.func154.trans (congrArg some (by kernel_rfl)),
  f20 := ⟨Try.f156.name, by decide, Try.func156.trans (congrArg some (by kernel_rfl))⟩,
  f21 := ⟨Try.f157.name, by decide, Try.func157.trans (congrArg some (by kernel_rfl))⟩,
  f22 := ⟨Try.f158.name, by decide, Try.func158.trans (congrArg some (by kernel_rfl))⟩,
  f23 := ⟨Try.f159.name, by decide, Try.func159.trans (congrArg some (by kernel_rfl))⟩,
  f24 := ⟨Try.f160.name, by decide, Try.func160.trans (congrArg some (by kernel_rfl))⟩,
  f25 := ⟨Try.f161.name, by decide, Try.func161.trans (congrArg some (by kernel_rfl))⟩,
  f26 := ⟨Try.f162.name, by decide, Try.func162.trans (congrArg some (by kernel_rfl))⟩,
  f27 := ⟨Try.f163.name, by decide, Try.func163.trans (congrArg some (by kernel_rfl))⟩,
  f28 := Try.func164.trans (congrArg some (by kernel_rfl)),
  f29 := Try.func165.trans (congrArg some (by kernel_rfl)),
  f46 := ⟨Try.f166.name, by decide, Try.func166.trans (congrArg some (by kernel_rfl))⟩,
  f47 := Try.func167.trans (congrArg some (by kernel_rfl)),
  f48 := Try.func168.trans (congrArg some (by kernel_rfl)),
  f49 := ⟨Try.f169.name, by decide, Try.func169.trans (congrArg some (by kernel_rfl))⟩,
  f50 := ⟨Try.f170.name, by decide, Try.func170.trans (congrArg some (by kernel_rfl))⟩,
  f57 := ⟨Try.f171.name, by decide, Try.func171.trans (congrArg some (by kernel_rfl))⟩,
  t0 := Try.underlying0,
  a0 := Try.isAgg0,
  z0 := Try.sizeOf0,
  v0 := Try.zeroValue0,
  t3 := Try.underlying3,
  a3 := Try.isAgg3,
  z3 := Try.sizeOf3,
  v3 := Try.zeroValue3,
  t4 := Try.underlying4,
  a4 := Try.isAgg4,
  z4 := Try.sizeOf4,
  v4 := Try.zeroValue4,
  t5 := Try.underlying5,
  a5 := Try.isAgg5,
  z5 := Try.sizeOf5,
  v5 := Try.zeroValue5,
  t9 := Try.underlying9,
  a9 := Try.isAgg9,
  z9 := Try.sizeOf9,
  v9 := Try.zeroValue9,
  t22 := Try.underlying22,
  a22 := Try.isAgg22,
  z22 := Try.sizeOf22,
  v22 := Try.zeroValue22,
  t25 := Try.underlying100,
  a25 := Try.isAgg100,
  z25 := Try.sizeOf100,
  v25 := Try.zeroValue100,
  t39 := Try.underlying127,
  a39 := Try.isAgg127,
  z39 := Try.sizeOf127,
  v39 := Try.zeroValue127,
  t45 := Try.underlying168,
  a45 := Try.isAgg168,
  z45 := Try.sizeOf168,
  v45 := Try.zeroValue168,
  t46 := Try.underlying169,
  a46 := Try.isAgg169,
  z46 := Try.sizeOf169,
  v46 := Try.zeroValue169,
  t50 := Try.underlying157,
  a50 := Try.isAgg157,
  z50 := Try.sizeOf157,
  v50 := Try.zeroValue157,
  t53 := Try.underlying92,
  a53 := Try.isAgg92,
  z53 := Try.sizeOf92,
  v53 := Try.zeroValue92,
  t55 := Try.underlying175,
  a55 := Try.isAgg175,
  z55 := Try.sizeOf175,
  v55 := Try.zeroValue175,
  t66 := Try.underlying176,
  a66 := Try.isAgg176,
  z66 := Try.sizeOf176,
  v66 := Try.zeroValue176,
  t70 := Try.underlying180,
  a70 := Try.isAgg180,
  z70 := Try.sizeOf180,
  v70 := Try.zeroValue180,
  t76 := Try.underlying182,
  a76 := Try.isAgg182,
  z76 := Try.sizeOf182,
  v76 := Try.zeroValue182,
  t77 := Try.underlying183,
  a77 := Try.isAgg183,
  z77 := Try.sizeOf183,
  v77 := Try.zeroValue183 }


set_option maxHeartbeats 400000 in
theorem compare_grow (a b c d : Int) (w : World) :
    Calls Try.prog 81 #[.agg #[.int .i64 a, .int .i64 b], .agg #[.int .i64 c, .int .i64 d]] w (fun e w' => e = .returned (.int .i64 (cmpP (a, b) (c, d))) ∧ ∃ q os', w' = grow (w.drewN q) os') := by
  go_enter Try.func81, Try.ntmps81
  go_wp2
  refine region_tail 10 (by kernel_rfl) (by kernel_rfl) ?_
  simp only [List.take_succ_cons, List.take_zero, List.drop_succ_cons, List.drop_zero]
  repeat still_step
  still_call Calls_still (compareInt_any _ _ _)
  repeat still_step
  still_call Calls_still (compareInt_any _ _ _)
  refine wpStill_nil ?_
  go_wp2_with fail
  refine (or_any [cmpI a c, cmpI b d] _ 2 _ (by simp) ?_).mono ?_
  · intro i hi
    match i, hi with
    | 0, _ => exact ⟨_, _, rfl, by simp [go_sem]⟩
    | 1, _ => exact ⟨_, _, rfl, by simp [go_sem]⟩
  rintro e w' ⟨rfl, rfl⟩
  go_wp2
  go_ret
  refine ⟨rfl, 1, #[.cells #[.int .i64 a, .int .i64 b] 83, .cells #[.int .i64 c, .int .i64 d] 83, .cells #[.int .i64 (cmpI a c), .int .i64 (cmpI b d)] 3], ?_⟩
  rw [alloc_eq_grow, alloc_eq_grow, alloc_eq_grow, grow_grow, grow_grow]
  rfl

theorem cmp_lays (blk off size : Nat) (w : World) : CmpLays Try.prog 81 #[] pairC 2 cmpP blk off size w :=
  fun _ _ _ _ x y => compare_grow x.1 x.2 y.1 y.2 _
theorem isAgg83 (w : World) : (isAgg 83).run Try.prog w = .ok true w := by kernel_rfl
theorem sizeOf83 (w : World) : (Go.sizeOf 83).run Try.prog w = .ok 2 w := by kernel_rfl
theorem cmpP_lt {x y : Int × Int} : cmpP x y < 0 ↔ x.1 < y.1 ∨ (x.1 = y.1 ∧ x.2 < y.2) := by
  unfold cmpP orI cmpI
  by_cases h1 : x.1 < y.1
  · simp [h1]
  · by_cases h2 : y.1 < x.1
    · simp [h1, h2]; omega
    · have e : x.1 = y.1 := by omega
      by_cases h3 : x.2 < y.2
      · simp [e, h3, orI]
      · by_cases h4 : y.2 < x.2
        · simp [e, h3, h4, orI]
        · simp [e, h3, h4, orI]
theorem ltP (x y : Int × Int) : ltOf cmpP x y = decide (x.1 < y.1 ∨ (x.1 = y.1 ∧ x.2 < y.2)) := by
  unfold ltOf
  rw [Bool.eq_iff_iff]
  simp only [decide_eq_true_eq]
  exact cmpP_lt
theorem swoP : SWO (ltOf cmpP) where
  irrefl x := by rw [ltP]; simp
  trans x y z h1 h2 := by rw [ltP] at *; simp at *; omega
  ntrans x y z h1 h2 := by rw [ltP] at *; simp at *; omega

theorem flatK_pairs (l : List (Int × Int)) : flatK pairC 2 l.toArray = (l.flatMap pairC).toArray := by
  refine Array.ext (by show (flatK pairC 2 l.toArray).size = _; rw [size_flatK, List.size_toArray, List.size_toArray, flatMap_len pairC_len]) fun t h1 h2 => ?_
  have ht : t < l.toArray.size * 2 := by simpa using h1
  have hl : t / 2 < l.length := by simp at ht; omega
  have e := flatMap_get pairC_len l (t / 2) (t % 2) hl (Nat.mod_lt _ (by decide))
  have et : t / 2 * 2 + t % 2 = t := by omega
  rw [et] at e
  have hg := get_flatK pairC 2 l.toArray t ht
  rw [getElem!_pos _ t h1] at hg
  rw [hg]
  have e2 : (l.flatMap pairC).toArray[t] = (l.flatMap pairC)[t]'(by simpa using h2) := by simp
  rw [e2]
  have e3 := List.getElem?_eq_getElem (show t < (l.flatMap pairC).length by simpa using h2)
  rw [e] at e3
  have e4 : l.toArray[t / 2]! = l[t / 2] := by simp [hl]
  rw [e4, List.getElem!_eq_getElem?_getD, e3]
  rfl

theorem take_putPairs (cur : Array Value) (l : List (Int × Int)) (h : l.length * 2 ≤ cur.size) : (putCells id 0 (flatK pairC 2 l.toArray) cur).toList.take (l.length * 2) = l.flatMap pairC := by
  rw [flatK_pairs]
  have hlen := flatMap_len pairC_len l
  apply List.ext_getElem?
  intro j
  by_cases hj : j < l.length * 2
  · rw [List.getElem?_take_of_lt hj, Array.getElem?_toList]
    have hjc : j < cur.size := by omega
    have hjl : j < (l.flatMap pairC).length := by omega
    generalize l.flatMap pairC = F at *
    simp [putCells, hjl, hjc]
  · rw [List.getElem?_take_eq_none (by omega), List.getElem?_eq_none (by omega)]
theorem heap_sortedK {w : World} {g n : Nat} {os : Array Obj} {cur : Array Value} {e : TypeId} {fr : Nat × Nat} (d : Array (Int × Int)) (hb : w.heap[g]? = some (.cells cur e fr)) :
    (sortWorldK pairC 2 w g 0 n d os).heap[g]? = some (.cells (putCells id 0 (flatK pairC 2 d) cur) e fr) := by
  have hg : g < w.heap.size := (Array.getElem?_eq_some_iff.1 hb).1
  unfold sortWorldK putRowK
  rw [heap_grow_old _ _ (by simpa using hg)]
  simp [putRow, mapBlock, Sort.ahead, Array.getElem?_modify, hb, onCells]
theorem grownBy_sortedK {w : World} {g n : Nat} {os : Array Obj} (d : Array (Int × Int)) : w.grownBy (sortWorldK pairC 2 w g 0 n d os) (some g) := by
  refine ⟨rfl, rfl, rfl, by unfold sortWorldK putRowK; simp, fun k hk hne => ?_⟩
  unfold sortWorldK putRowK
  rw [heap_grow_old _ _ (by simpa using hk)]
  have : g ≠ k := fun e => hne (by rw [e])
  simp [putRow, mapBlock, Sort.ahead, Array.getElem?_modify, this]

def SortedP (l : List (Int × Int)) : Prop := l.Pairwise fun a b => ¬ cmpP b a < 0
set_option maxHeartbeats 1000000 in
theorem sortP_any (base g c : Nat) (l : List (Int × Int)) (w : World) (h : OwnG w base 83 2 pairC (.slice (some ⟨g, 0, none⟩) l.length c) l) (hl : l.length < 1099511627776) :
    Calls Try.prog 137 #[.slice (some ⟨g, 0, none⟩) l.length c, .func (.func 81) #[] #[]] w (fun e w' => e = .returned (.tuple #[]) ∧ ∃ l' : List (Int × Int), l'.Perm l ∧ SortedP l' ∧ OwnG w' base 83 2 pairC (.slice (some ⟨g, 0, none⟩) l'.length c) l' ∧ w.grownBy w' (some g)) := by
  have eg : ∀ args w, (callFunc 81 args).run Try.prog w = .ok (.enter 81 args) w := enters_of Try.func81 (by kernel_rfl) rfl
  rcases h.2 with ⟨h0, _⟩ | ⟨g', cap, cur, hv, hbase, hb, hn, hcm, hsz, htk⟩
  · cases h0
  simp only [Value.slice.injEq, Option.some.injEq, Addr.mk.injEq] at hv
  obtain ⟨⟨rfl, -, -⟩, -, rfl⟩ := hv
  have hlt := (Array.getElem?_eq_some_iff.1 hb).1
  have hH : HoldsK pairC 2 w g 0 l.toArray := by
    intro j hj
    rw [size_flatK, List.size_toArray] at hj
    refine ⟨?_, by simp [World.frozen?, hb]⟩
    rw [flatK_pairs]
    have hjl : j < (l.flatMap pairC).length := by rw [flatMap_len pairC_len]; exact hj
    have h1 : (cur.toList.take (l.length * 2))[j]? = (l.flatMap pairC)[j]? := by rw [htk]
    rw [List.getElem?_take_of_lt hj] at h1
    simp only [World.cell?, hb, Nat.zero_add]
    simp only [Option.isSome_none, Bool.false_eq_true, if_false]
    rw [← Array.getElem?_toList, h1]
    generalize l.flatMap pairC = F at *
    simp [hjl]
  have hcon := AnyQ.slices_SortFunc sortPairs 2 isAgg83 sizeOf83 pairC pairC_len pairC_one cmpP swoP 81 #[] g 0 c l.toArray w eg (cmp_lays g 0 l.toArray.size w) hH hlt (by simp; omega)
  change Calls Try.prog 137 _ _ _ at hcon
  rw [List.size_toArray] at hcon
  refine hcon.mono ?_
  rintro e w' ⟨rfl, d', n, os, hp, hs, rfl⟩
  obtain ⟨p1, p2, p3⟩ := hp
  have p1' : d'.size = l.length := by simpa using p1
  have e1 : (d'.extract 0 l.length).toList = d'.toList := by rw [← p1']; simp
  have e2 : (l.toArray.extract 0 l.length).toList = l := by simp
  rw [e1, e2] at p3
  have hlen : d'.toList.length = l.length := by simpa using p1'
  have hdd : d' = d'.toList.toArray := rfl
  refine ⟨rfl, d'.toList, p3, ?_, ⟨?_, .inr ⟨g, c, _, rfl, hbase, heap_sortedK d' hb, by rw [hlen]; exact hn, hcm, ?_, ?_⟩⟩, grownBy_sortedK d'⟩
  · unfold SortedP
    rw [List.pairwise_iff_getElem]
    intro i j hi hj hij
    have h := hs i j (Nat.zero_le _) hij (by rw [← hlen]; exact hj)
    unfold ltOf at h
    have h := of_decide_eq_false h
    rw [getElem!_pos d' j (by simpa using hj), getElem!_pos d' i (by simpa using hi)] at h
    simpa using h
  · rw [flatMap_len pairC_len]
  · simpa [putCells] using hsz
  · have := take_putPairs cur d'.toList (by rw [hlen, hsz]; omega)
    exact this
end Go.Proofs.Yteljjkghjbofnaa
