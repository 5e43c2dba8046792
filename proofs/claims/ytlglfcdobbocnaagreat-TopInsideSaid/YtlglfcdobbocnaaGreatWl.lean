/- slices.SortFunc at points, by order. -/
import Derived.Test.YtlglfcdobbocnaaGreatWk
import Derived.Shelf.SlSortCmp.WholeK
import Derived.Lib.AppendZerosOnto
import Derived.Lib.SlicesCompact
import Derived.Lib.SliceRun
set_option maxRecDepth 100000
namespace Go.Proofs.YtlglfcdobbocnaaGreat
open Go Go.Proofs Go.RowKit Go.Shelf Go.Sort
attribute [local go_sem] Oper.semAt_some

def sortPairs_ren : Go.Shelf.Ren := ⟨fun | 6 => 42 | 15 => 77 | 14 => 76 | 28 => 104 | 29 => 105 | 20 => 96 | 21 => 97 | 22 => 98 | 23 => 99 | 24 => 100 | 25 => 101 | 26 => 102 | 27 => 103 | 46 => 112 | 47 => 113 | 48 => 114 | 49 => 115 | 50 => 116 | 57 => 120 | n => n, fun | 22 => 22 | 24 => 25 | 25 => 74 | 3 => 3 | 39 => 111 | 0 => 0 | 53 => 133 | 55 => 135 | 4 => 4 | 46 => 127 | 45 => 126 | 50 => 79 | 5 => 5 | 9 => 9 | 66 => 141 | 70 => 145 | 76 => 149 | 77 => 140 | n => n, fun | n => n⟩
theorem sortPairs : Go.Proofs.SlLaysF0.n6 Tryz.prog sortPairs_ren := {
  mixed := by kernel_rfl,
  f6 := ⟨Tryz.f42.name, by decide, Tryz.func42.trans (congrArg some (by kernel_rfl))⟩,
  f14 := ⟨Tryz.f76.name, by decide, Tryz.func76.trans (congrArg some (by kernel_rfl))⟩,
  f15 := Tryz.func77.trans (congrArg some (by kernel_rfl)),
  f20 := ⟨Tryz.f96.name, by decide, Tryz.func96.trans (congrArg some (by kernel_rfl))⟩,
  f21 := ⟨Tryz.f97.name, by decide, Tryz.func97.trans (congrArg some (by kernel_rfl))⟩,
  f22 := ⟨Tryz.f98.name, by decide, Tryz.func98.trans (congrArg some (by kernel_rfl))⟩,
  f23 := ⟨Tryz.f99.name, by decide, Tryz.func99.trans (congrArg some (by kernel_rfl))⟩,
  f24 := ⟨Tryz.f100.name, by decide, Tryz.func100.trans (congrArg some (by kernel_rfl))⟩,
  f25 := ⟨Tryz.f101.name, by decide, Tryz.func101.trans (congrArg some (by kernel_rfl))⟩,
  f26 := ⟨Tryz.f102.name, by decide, Tryz.func102.trans (congrArg some (by kernel_rfl))⟩,
  f27 := ⟨Tryz.f103.name, by decide, Tryz.func103.trans (congrArg some (by kernel_rfl))⟩,
  f28 := Tryz.func104.trans (congrArg some (by kernel_rfl)),
  f29 := Tryz.func105.trans (congrArg some (by kernel_rfl)),
  f46 := ⟨Tryz.f112.name, by decide, Tryz.func112.trans (congrArg some (by kernel_rfl))⟩,
  f47 := Tryz.func113.trans (congrArg some (by kernel_rfl)),
  f48 := Tryz.func114.trans (congrArg some (by kernel_rfl)),
  f49 := ⟨Tryz.f115.name, by decide, Tryz.func115.trans (congrArg some (by kernel_rfl))⟩,
  f50 := ⟨Tryz.f116.name, by decide, Tryz.func116.trans (congrArg some (by kernel_rfl))⟩,
  f57 := ⟨Tryz.f120.name, by decide, Tryz.func120.trans (congrArg some (by kernel_rfl))⟩,
  t0 := Tryz.underlying0,
  a0 := Tryz.isAgg0,
  z0 := Tryz.sizeOf0,
  v0 := Tryz.zeroValue0,
  t3 := Tryz.underlying3,
  a3 := Tryz.isAgg3,
  z3 := Tryz.sizeOf3,
  v3 := Tryz.zeroValue3,
  t4 := Tryz.underlying4,
  a4 := Tryz.isAgg4,
  z4 := Tryz.sizeOf4,
  v4 := Tryz.zeroValue4,
  t5 := Tryz.underlying5,
  a5 := Tryz.isAgg5,
  z5 := Tryz.sizeOf5,
  v5 := Tryz.zeroValue5,
  t9 := Tryz.underlying9,
  a9 := Tryz.isAgg9,
  z9 := Tryz.sizeOf9,
  v9 := Tryz.zeroValue9,
  t22 := Tryz.underlying22,
  a22 := Tryz.isAgg22,
  z22 := Tryz.sizeOf22,
  v22 := Tryz.zeroValue22,
  t25 := Tryz.underlying74,
  a25 := Tryz.isAgg74,
  z25 := Tryz.sizeOf74,
  v25 := Tryz.zeroValue74,
  t39 := Tryz.underlying111,
  a39 := Tryz.isAgg111,
  z39 := Tryz.sizeOf111,
  v39 := Tryz.zeroValue111,
  t45 := Tryz.underlying126,
  a45 := Tryz.isAgg126,
  z45 := Tryz.sizeOf126,
  v45 := Tryz.zeroValue126,
  t46 := Tryz.underlying127,
  a46 := Tryz.isAgg127,
  z46 := Tryz.sizeOf127,
  v46 := Tryz.zeroValue127,
  t50 := Tryz.underlying79,
  a50 := Tryz.isAgg79,
  z50 := Tryz.sizeOf79,
  v50 := Tryz.zeroValue79,
  t53 := Tryz.underlying133,
  a53 := Tryz.isAgg133,
  z53 := Tryz.sizeOf133,
  v53 := Tryz.zeroValue133,
  t55 := Tryz.underlying135,
  a55 := Tryz.isAgg135,
  z55 := Tryz.sizeOf135,
  v55 := Tryz.zeroValue135,
  t66 := Tryz.underlying141,
  a66 := Tryz.isAgg141,
  z66 := Tryz.sizeOf141,
  v66 := Tryz.zeroValue141,
  t70 := Tryz.underlying145,
  a70 := Tryz.isAgg145,
  z70 := Tryz.sizeOf145,
  v70 := Tryz.zeroValue145,
  t76 := Tryz.underlying149,
  a76 := Tryz.isAgg149,
  z76 := Tryz.sizeOf149,
  v76 := Tryz.zeroValue149,
  t77 := Tryz.underlying140,
  a77 := Tryz.isAgg140,
  z77 := Tryz.sizeOf140,
  v77 := Tryz.zeroValue140 }


set_option maxHeartbeats 400000 in
theorem compare_grow (a b c d : Int) (w : World) :
    Calls Tryz.prog 43 #[.agg #[.int .i64 a, .int .i64 b], .agg #[.int .i64 c, .int .i64 d]] w (fun e w' => e = .returned (.int .i64 (cmpP (a, b) (c, d))) ∧ ∃ q os', w' = grow (w.drewN q) os') := by
  go_enter Tryz.func43, Tryz.ntmps43
  go_wp2
  refine region_tail 10 (by kernel_rfl) (by kernel_rfl) ?_
  simp only [List.take_succ_cons, List.take_zero, List.drop_succ_cons, List.drop_zero]
  repeat still_step
  still_call Calls_still (compare_any _ _ _)
  repeat still_step
  still_call Calls_still (compare_any _ _ _)
  refine wpStill_nil ?_
  go_wp2_with fail
  refine (or_any [cmpI a c, cmpI b d] _ 2 _ (by simp) ?_).mono ?_
  · intro i hi
    match i, hi with
    | 0, _ => exact ⟨_, _, rfl, by simp [go_sem]⟩
    | 1, _ => exact ⟨_, _, rfl, by simp [go_sem]⟩
  rintro e w' ⟨rfl, rfl⟩
  go_wp2
  go_ret
  refine ⟨rfl, 1, #[.cells #[.int .i64 a, .int .i64 b] 25, .cells #[.int .i64 c, .int .i64 d] 25, .cells #[.int .i64 (cmpI a c), .int .i64 (cmpI b d)] 3], ?_⟩
  rw [alloc_eq_grow, alloc_eq_grow, alloc_eq_grow, grow_grow, grow_grow]
  rfl

theorem cmp_lays (blk off size : Nat) (w : World) : CmpLays Tryz.prog 43 #[] pairC 2 cmpP blk off size w :=
  fun _ _ _ _ x y => compare_grow x.1 x.2 y.1 y.2 _
theorem isAggP (w : World) : (isAgg 25).run Tryz.prog w = .ok true w := by kernel_rfl
theorem sizeOfP (w : World) : (Go.sizeOf 25).run Tryz.prog w = .ok 2 w := by kernel_rfl
theorem ltOfP (x y : Int × Int) : ltOf cmpP x y = decide (x.1 < y.1 ∨ (x.1 = y.1 ∧ x.2 < y.2)) := by
  unfold ltOf
  rw [Bool.eq_iff_iff]
  simp only [decide_eq_true_eq]
  rw [cmpP_lt]; rfl
theorem swoP : SWO (ltOf cmpP) where
  irrefl x := by rw [ltOfP]; simp
  trans x y z h1 h2 := by rw [ltOfP] at *; simp at *; omega
  ntrans x y z h1 h2 := by rw [ltOfP] at *; simp at *; omega

theorem flatK_pairs (l : List (Int × Int)) : flatK pairC 2 l.toArray = (l.flatMap pairC).toArray := by
  refine Array.ext (by show (flatK pairC 2 l.toArray).size = _; rw [size_flatK, List.size_toArray, List.size_toArray, flatMap_len pairC_len]) fun t h1 h2 => ?_
  have ht : t < l.toArray.size * 2 := by simpa using h1
  have hl : t / 2 < l.length := by simp at ht; omega
  have e := flatMap_get pairC_len l (t / 2) (t % 2) hl (Nat.mod_lt _ (by decide))
  have et : t / 2 * 2 + t % 2 = t := by omega
  rw [et] at e
  have hg := get_flatK pairC 2 l.toArray t ht
  rw [getElem!_pos _ t h1] at hg
  rw [hg]
  have e2 : (l.flatMap pairC).toArray[t] = (l.flatMap pairC)[t]'(by simpa using h2) := by simp
  rw [e2]
  have e3 := List.getElem?_eq_getElem (show t < (l.flatMap pairC).length by simpa using h2)
  rw [e] at e3
  have e4 : l.toArray[t / 2]! = l[t / 2] := by simp [hl]
  rw [e4, List.getElem!_eq_getElem?_getD, e3]
  rfl

theorem take_putPairs (cur : Array Value) (l : List (Int × Int)) (h : l.length * 2 ≤ cur.size) : (putCells id 0 (flatK pairC 2 l.toArray) cur).toList.take (l.length * 2) = l.flatMap pairC := by
  rw [flatK_pairs]
  have hlen := flatMap_len pairC_len l
  apply List.ext_getElem?
  intro j
  by_cases hj : j < l.length * 2
  · rw [List.getElem?_take_of_lt hj, Array.getElem?_toList]
    have hjc : j < cur.size := by omega
    have hjl : j < (l.flatMap pairC).length := by omega
    generalize l.flatMap pairC = F at *
    simp [putCells, hjl, hjc]
  · rw [List.getElem?_take_eq_none (by omega), List.getElem?_eq_none (by omega)]
theorem heap_sortedK {w : World} {g n : Nat} {os : Array Obj} {cur : Array Value} {e : TypeId} {fr : Nat × Nat} (d : Array (Int × Int)) (hb : w.heap[g]? = some (.cells cur e fr)) :
    (sortWorldK pairC 2 w g 0 n d os).heap[g]? = some (.cells (putCells id 0 (flatK pairC 2 d) cur) e fr) := by
  have hg : g < w.heap.size := (Array.getElem?_eq_some_iff.1 hb).1
  unfold sortWorldK putRowK
  rw [heap_grow_old _ _ (by simpa using hg)]
  simp [putRow, mapBlock, Sort.ahead, Array.getElem?_modify, hb, onCells]
theorem grownBy_sortedK {w : World} {g n : Nat} {os : Array Obj} (d : Array (Int × Int)) : w.grownBy (sortWorldK pairC 2 w g 0 n d os) (some g) := by
  refine ⟨rfl, rfl, rfl, by unfold sortWorldK putRowK; simp, fun k hk hne => ?_⟩
  unfold sortWorldK putRowK
  rw [heap_grow_old _ _ (by simpa using hk)]
  have : g ≠ k := fun e => hne (by rw [e])
  simp [putRow, mapBlock, Sort.ahead, Array.getElem?_modify, this]

def SortedP (l : List (Int × Int)) : Prop := l.Pairwise fun a b => ¬ cmpP b a < 0
set_option maxHeartbeats 1000000 in
theorem sortP_any (base g c : Nat) (l : List (Int × Int)) (w : World) (h : OwnG w base 25 2 pairC (.slice (some ⟨g, 0, none⟩) l.length c) l) (hl : l.length < 1099511627776) :
    Calls Tryz.prog 42 #[.slice (some ⟨g, 0, none⟩) l.length c, .func (.func 43) #[] #[]] w (fun e w' => e = .returned (.tuple #[]) ∧ ∃ l' : List (Int × Int), l'.Perm l ∧ SortedP l' ∧ OwnG w' base 25 2 pairC (.slice (some ⟨g, 0, none⟩) l'.length c) l' ∧ w.grownBy w' (some g)) := by
  have eg : ∀ args w, (callFunc 43 args).run Tryz.prog w = .ok (.enter 43 args) w := enters_of Tryz.func43 (by kernel_rfl) rfl
  rcases h.2 with ⟨h0, _⟩ | ⟨g', cap, cur, hv, hbase, hb, hn, hcm, hsz, htk⟩
  · cases h0
  simp only [Value.slice.injEq, Option.some.injEq, Addr.mk.injEq] at hv
  obtain ⟨⟨rfl, -, -⟩, -, rfl⟩ := hv
  have hlt := (Array.getElem?_eq_some_iff.1 hb).1
  have hH : HoldsK pairC 2 w g 0 l.toArray := by
    intro j hj
    rw [size_flatK, List.size_toArray] at hj
    refine ⟨?_, by simp [World.frozen?, hb]⟩
    rw [flatK_pairs]
    have hjl : j < (l.flatMap pairC).length := by rw [flatMap_len pairC_len]; exact hj
    have h1 : (cur.toList.take (l.length * 2))[j]? = (l.flatMap pairC)[j]? := by rw [htk]
    rw [List.getElem?_take_of_lt hj] at h1
    simp only [World.cell?, hb, Nat.zero_add]
    simp only [Option.isSome_none, Bool.false_eq_true, if_false]
    rw [← Array.getElem?_toList, h1]
    generalize l.flatMap pairC = F at *
    simp [hjl]
  have hcon := AnyQ.slices_SortFunc sortPairs 2 isAggP sizeOfP pairC pairC_len pairC_one cmpP swoP 43 #[] g 0 c l.toArray w eg (cmp_lays g 0 l.toArray.size w) hH hlt (by simp; omega)
  change Calls Tryz.prog 42 _ _ _ at hcon
  rw [List.size_toArray] at hcon
  refine hcon.mono ?_
  rintro e w' ⟨rfl, d', n, os, hp, hs, rfl⟩
  obtain ⟨p1, p2, p3⟩ := hp
  have p1' : d'.size = l.length := by simpa using p1
  have e1 : (d'.extract 0 l.length).toList = d'.toList := by rw [← p1']; simp
  have e2 : (l.toArray.extract 0 l.length).toList = l := by simp
  rw [e1, e2] at p3
  have hlen : d'.toList.length = l.length := by simpa using p1'
  have hdd : d' = d'.toList.toArray := rfl
  refine ⟨rfl, d'.toList, p3, ?_, ⟨?_, .inr ⟨g, c, _, rfl, hbase, heap_sortedK d' hb, by rw [hlen]; exact hn, hcm, ?_, ?_⟩⟩, grownBy_sortedK d'⟩
  · unfold SortedP
    rw [List.pairwise_iff_getElem]
    intro i j hi hj hij
    have h := hs i j (Nat.zero_le _) hij (by rw [← hlen]; exact hj)
    unfold ltOf at h
    have h := of_decide_eq_false h
    rw [getElem!_pos d' j (by simpa using hj), getElem!_pos d' i (by simpa using hi)] at h
    simpa using h
  · rw [flatMap_len pairC_len]
  · simpa [putCells] using hsz
  · have := take_putPairs cur d'.toList (by rw [hlen, hsz]; omega)
    exact this

end Go.Proofs.YtlglfcdobbocnaaGreat
