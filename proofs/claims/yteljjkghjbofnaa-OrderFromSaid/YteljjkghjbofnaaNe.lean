/- slices.SortFunc, Grow, Concat, Compact at pairs; order.Join. -/
import Derived.Test.YteljjkghjbofnaaWa
import Derived.Shelf.SlSortCmp.WholeK
import Derived.Test.YteljjkghjbofnaaTe
import Derived.Lib.AppendZerosOnto
import Derived.Lib.SlicesCompact
import Derived.Lib.SliceRun
import Derived.Deep.RegionHeld3
/-! slices.SortFunc at pairs, by compare. -/
set_option maxRecDepth 100000

namespace Go.Proofs.Yteljjkghjbofnaa
open Go Go.Proofs Go.RowKit Go.Shelf Go.Sort

/-! The laying of slices.SortFunc at this dump, in plain words. -/
def sortPairs_ren : Go.Shelf.Ren := ⟨fun | 6 => 137 | 15 => 154 | 14 => 153 | 28 => 164 | 29 => 165 | 20 => 156 | 21 => 157 | 22 => 158 | 23 => 159 | 24 => 160 | 25 => 161 | 26 => 162 | 27 => 163 | 46 => 166 | 47 => 167 | 48 => 168 | 49 => 169 | 50 => 170 | 57 => 171 | n => n, fun | 22 => 22 | 24 => 83 | 25 => 100 | 3 => 3 | 39 => 127 | 0 => 0 | 53 => 92 | 55 => 175 | 4 => 4 | 46 => 169 | 45 => 168 | 50 => 157 | 5 => 5 | 9 => 9 | 66 => 176 | 70 => 180 | 76 => 182 | 77 => 183 | n => n, fun | n => n⟩
theorem sortPairs : Go.Proofs.SlLaysF0.n6 Try.prog sortPairs_ren := {
  mixed := by kernel_rfl,
  f6 := ⟨Try.f137.name, by decide, Try.func137.trans (congrArg some (by kernel_rfl))⟩,
  f14 := ⟨Try.f153.name, by decide, Try.func153.trans (congrArg some (by kernel_rfl))⟩,
  f15 := Try.func154.trans (congrArg some (by kernel_rfl)),
  f20 := ⟨Try.f156.name, by decide, Try.func156.trans (congrArg some (by kernel_rfl))⟩,
  f21 := ⟨Try.f157.name, by decide, Try.func157.trans (congrArg some (by kernel_rfl))⟩,
  f22 := ⟨Try.f158.name, by decide, Try.func158.trans (congrArg some (by kernel_rfl))⟩,
  f23 := ⟨Try.f159.name, by decide, Try.func159.trans (congrArg some (by kernel_rfl))⟩,
  f24 := ⟨Try.f160.name, by decide, Try.func160.trans (congrArg some (by kernel_rfl))⟩,
  f25 := ⟨Try.f161.name, by decide, Try.func161.trans (congrArg some (by kernel_rfl))⟩,
  f26 := ⟨Try.f162.name, by decide, Try.func162.trans (congrArg some (by kernel_rfl))⟩,
  f27 := ⟨Try.f163.name, by decide, Try.func163.trans (congrArg some (by kernel_rfl))⟩,
  f28 := Try.func164.trans (congrArg some (by kernel_rfl)),
  f29 := Try.func165.trans (congrArg some (by kernel_rfl)),
  f46 := ⟨Try.f166.name, by decide, Try.func166.trans (congrArg some (by kernel_rfl))⟩,
  f47 := Try.func167.trans (congrArg some (by kernel_rfl)),
  f48 := Try.func168.trans (congrArg some (by kernel_rfl)),
  f49 := ⟨Try.f169.name, by decide, Try.func169.trans (congrArg some (by kernel_rfl))⟩,
  f50 := ⟨Try.f170.name, by decide, Try.func170.trans (congrArg some (by kernel_rfl))⟩,
  f57 := ⟨Try.f171.name, by decide, Try.func171.trans (congrArg some (by kernel_rfl))⟩,
  t0 := Try.underlying0,
  a0 := Try.isAgg0,
  z0 := Try.sizeOf0,
  v0 := Try.zeroValue0,
  t3 := Try.underlying3,
  a3 := Try.isAgg3,
  z3 := Try.sizeOf3,
  v3 := Try.zeroValue3,
  t4 := Try.underlying4,
  a4 := Try.isAgg4,
  z4 := Try.sizeOf4,
  v4 := Try.zeroValue4,
  t5 := Try.underlying5,
  a5 := Try.isAgg5,
  z5 := Try.sizeOf5,
  v5 := Try.zeroValue5,
  t9 := Try.underlying9,
  a9 := Try.isAgg9,
  z9 := Try.sizeOf9,
  v9 := Try.zeroValue9,
  t22 := Try.underlying22,
  a22 := Try.isAgg22,
  z22 := Try.sizeOf22,
  v22 := Try.zeroValue22,
  t25 := Try.underlying100,
  a25 := Try.isAgg100,
  z25 := Try.sizeOf100,
  v25 := Try.zeroValue100,
  t39 := Try.underlying127,
  a39 := Try.isAgg127,
  z39 := Try.sizeOf127,
  v39 := Try.zeroValue127,
  t45 := Try.underlying168,
  a45 := Try.isAgg168,
  z45 := Try.sizeOf168,
  v45 := Try.zeroValue168,
  t46 := Try.underlying169,
  a46 := Try.isAgg169,
  z46 := Try.sizeOf169,
  v46 := Try.zeroValue169,
  t50 := Try.underlying157,
  a50 := Try.isAgg157,
  z50 := Try.sizeOf157,
  v50 := Try.zeroValue157,
  t53 := Try.underlying92,
  a53 := Try.isAgg92,
  z53 := Try.sizeOf92,
  v53 := Try.zeroValue92,
  t55 := Try.underlying175,
  a55 := Try.isAgg175,
  z55 := Try.sizeOf175,
  v55 := Try.zeroValue175,
  t66 := Try.underlying176,
  a66 := Try.isAgg176,
  z66 := Try.sizeOf176,
  v66 := Try.zeroValue176,
  t70 := Try.underlying180,
  a70 := Try.isAgg180,
  z70 := Try.sizeOf180,
  v70 := Try.zeroValue180,
  t76 := Try.underlying182,
  a76 := Try.isAgg182,
  z76 := Try.sizeOf182,
  v76 := Try.zeroValue182,
  t77 := Try.underlying183,
  a77 := Try.isAgg183,
  z77 := Try.sizeOf183,
  v77 := Try.zeroValue183 }


set_option maxHeartbeats 400000 in
theorem compare_grow (a b c d : Int) (w : World) :
    Calls Try.prog 81 #[.agg #[.int .i64 a, .int .i64 b], .agg #[.int .i64 c, .int .i64 d]] w (fun e w' => e = .returned (.int .i64 (cmpP (a, b) (c, d))) ∧ ∃ q os', w' = grow (w.drewN q) os') := by
  go_enter Try.func81, Try.ntmps81
  go_wp2
  refine region_tail 10 (by kernel_rfl) (by kernel_rfl) ?_
  simp only [List.take_succ_cons, List.take_zero, List.drop_succ_cons, List.drop_zero]
  repeat still_step
  still_call Calls_still (compareInt_any _ _ _)
  repeat still_step
  still_call Calls_still (compareInt_any _ _ _)
  refine wpStill_nil ?_
  go_wp2_with fail
  refine (or_any [cmpI a c, cmpI b d] _ 2 _ (by simp) ?_).mono ?_
  · intro i hi
    match i, hi with
    | 0, _ => exact ⟨_, _, rfl, by simp [go_sem]⟩
    | 1, _ => exact ⟨_, _, rfl, by simp [go_sem]⟩
  rintro e w' ⟨rfl, rfl⟩
  go_wp2
  go_ret
  refine ⟨rfl, 1, #[.cells #[.int .i64 a, .int .i64 b] 83, .cells #[.int .i64 c, .int .i64 d] 83, .cells #[.int .i64 (cmpI a c), .int .i64 (cmpI b d)] 3], ?_⟩
  rw [alloc_eq_grow, alloc_eq_grow, alloc_eq_grow, grow_grow, grow_grow]
  rfl

theorem cmp_lays (blk off size : Nat) (w : World) : CmpLays Try.prog 81 #[] pairC 2 cmpP blk off size w :=
  fun _ _ _ _ x y => compare_grow x.1 x.2 y.1 y.2 _
theorem isAgg83 (w : World) : (isAgg 83).run Try.prog w = .ok true w := by kernel_rfl
theorem sizeOf83 (w : World) : (Go.sizeOf 83).run Try.prog w = .ok 2 w := by kernel_rfl
theorem cmpP_lt {x y : Int × Int} : cmpP x y < 0 ↔ x.1 < y.1 ∨ (x.1 = y.1 ∧ x.2 < y.2) := by
  unfold cmpP orI cmpI
  by_cases h1 : x.1 < y.1
  · simp [h1]
  · by_cases h2 : y.1 < x.1
    · simp [h1, h2]; omega
    · have e : x.1 = y.1 := by omega
      by_cases h3 : x.2 < y.2
      · simp [e, h3, orI]
      · by_cases h4 : y.2 < x.2
        · simp [e, h3, h4, orI]
        · simp [e, h3, h4, orI]
theorem ltP (x y : Int × Int) : ltOf cmpP x y = decide (x.1 < y.1 ∨ (x.1 = y.1 ∧ x.2 < y.2)) := by
  unfold ltOf
  rw [Bool.eq_iff_iff]
  simp only [decide_eq_true_eq]
  exact cmpP_lt
theorem swoP : SWO (ltOf cmpP) where
  irrefl x := by rw [ltP]; simp
  trans x y z h1 h2 := by rw [ltP] at *; simp at *; omega
  ntrans x y z h1 h2 := by rw [ltP] at *; simp at *; omega

theorem flatK_pairs (l : List (Int × Int)) : flatK pairC 2 l.toArray = (l.flatMap pairC).toArray := by
  refine Array.ext (by show (flatK pairC 2 l.toArray).size = _; rw [size_flatK, List.size_toArray, List.size_toArray, flatMap_len pairC_len]) fun t h1 h2 => ?_
  have ht : t < l.toArray.size * 2 := by simpa using h1
  have hl : t / 2 < l.length := by simp at ht; omega
  have e := flatMap_get pairC_len l (t / 2) (t % 2) hl (Nat.mod_lt _ (by decide))
  have et : t / 2 * 2 + t % 2 = t := by omega
  rw [et] at e
  have hg := get_flatK pairC 2 l.toArray t ht
  rw [getElem!_pos _ t h1] at hg
  rw [hg]
  have e2 : (l.flatMap pairC).toArray[t] = (l.flatMap pairC)[t]'(by simpa using h2) := by simp
  rw [e2]
  have e3 := List.getElem?_eq_getElem (show t < (l.flatMap pairC).length by simpa using h2)
  rw [e] at e3
  have e4 : l.toArray[t / 2]! = l[t / 2] := by simp [hl]
  rw [e4, List.getElem!_eq_getElem?_getD, e3]
  rfl

theorem take_putPairs (cur : Array Value) (l : List (Int × Int)) (h : l.length * 2 ≤ cur.size) : (putCells id 0 (flatK pairC 2 l.toArray) cur).toList.take (l.length * 2) = l.flatMap pairC := by
  rw [flatK_pairs]
  have hlen := flatMap_len pairC_len l
  apply List.ext_getElem?
  intro j
  by_cases hj : j < l.length * 2
  · rw [List.getElem?_take_of_lt hj, Array.getElem?_toList]
    have hjc : j < cur.size := by omega
    have hjl : j < (l.flatMap pairC).length := by omega
    generalize l.flatMap pairC = F at *
    simp [putCells, hjl, hjc]
  · rw [List.getElem?_take_eq_none (by omega), List.getElem?_eq_none (by omega)]
theorem heap_sortedK {w : World} {g n : Nat} {os : Array Obj} {cur : Array Value} {e : TypeId} {fr : Nat × Nat} (d : Array (Int × Int)) (hb : w.heap[g]? = some (.cells cur e fr)) :
    (sortWorldK pairC 2 w g 0 n d os).heap[g]? = some (.cells (putCells id 0 (flatK pairC 2 d) cur) e fr) := by
  have hg : g < w.heap.size := (Array.getElem?_eq_some_iff.1 hb).1
  unfold sortWorldK putRowK
  rw [heap_grow_old _ _ (by simpa using hg)]
  simp [putRow, mapBlock, Sort.ahead, Array.getElem?_modify, hb, onCells]
theorem grownBy_sortedK {w : World} {g n : Nat} {os : Array Obj} (d : Array (Int × Int)) : w.grownBy (sortWorldK pairC 2 w g 0 n d os) (some g) := by
  refine ⟨rfl, rfl, rfl, by unfold sortWorldK putRowK; simp, fun k hk hne => ?_⟩
  unfold sortWorldK putRowK
  rw [heap_grow_old _ _ (by simpa using hk)]
  have : g ≠ k := fun e => hne (by rw [e])
  simp [putRow, mapBlock, Sort.ahead, Array.getElem?_modify, this]

def SortedP (l : List (Int × Int)) : Prop := l.Pairwise fun a b => ¬ cmpP b a < 0
set_option maxHeartbeats 1000000 in
theorem sortP_any (base g c : Nat) (l : List (Int × Int)) (w : World) (h : OwnG w base 83 2 pairC (.slice (some ⟨g, 0, none⟩) l.length c) l) (hl : l.length < 1099511627776) :
    Calls Try.prog 137 #[.slice (some ⟨g, 0, none⟩) l.length c, .func (.func 81) #[] #[]] w (fun e w' => e = .returned (.tuple #[]) ∧ ∃ l' : List (Int × Int), l'.Perm l ∧ SortedP l' ∧ OwnG w' base 83 2 pairC (.slice (some ⟨g, 0, none⟩) l'.length c) l' ∧ w.grownBy w' (some g)) := by
  have eg : ∀ args w, (callFunc 81 args).run Try.prog w = .ok (.enter 81 args) w := enters_of Try.func81 (by kernel_rfl) rfl
  rcases h.2 with ⟨h0, _⟩ | ⟨g', cap, cur, hv, hbase, hb, hn, hcm, hsz, htk⟩
  · cases h0
  simp only [Value.slice.injEq, Option.some.injEq, Addr.mk.injEq] at hv
  obtain ⟨⟨rfl, -, -⟩, -, rfl⟩ := hv
  have hlt := (Array.getElem?_eq_some_iff.1 hb).1
  have hH : HoldsK pairC 2 w g 0 l.toArray := by
    intro j hj
    rw [size_flatK, List.size_toArray] at hj
    refine ⟨?_, by simp [World.frozen?, hb]⟩
    rw [flatK_pairs]
    have hjl : j < (l.flatMap pairC).length := by rw [flatMap_len pairC_len]; exact hj
    have h1 : (cur.toList.take (l.length * 2))[j]? = (l.flatMap pairC)[j]? := by rw [htk]
    rw [List.getElem?_take_of_lt hj] at h1
    simp only [World.cell?, hb, Nat.zero_add]
    simp only [Option.isSome_none, Bool.false_eq_true, if_false]
    rw [← Array.getElem?_toList, h1]
    generalize l.flatMap pairC = F at *
    simp [hjl]
  have hcon := AnyQ.slices_SortFunc sortPairs 2 isAgg83 sizeOf83 pairC pairC_len pairC_one cmpP swoP 81 #[] g 0 c l.toArray w eg (cmp_lays g 0 l.toArray.size w) hH hlt (by simp; omega)
  change Calls Try.prog 137 _ _ _ at hcon
  rw [List.size_toArray] at hcon
  refine hcon.mono ?_
  rintro e w' ⟨rfl, d', n, os, hp, hs, rfl⟩
  obtain ⟨p1, p2, p3⟩ := hp
  have p1' : d'.size = l.length := by simpa using p1
  have e1 : (d'.extract 0 l.length).toList = d'.toList := by rw [← p1']; simp
  have e2 : (l.toArray.extract 0 l.length).toList = l := by simp
  rw [e1, e2] at p3
  have hlen : d'.toList.length = l.length := by simpa using p1'
  have hdd : d' = d'.toList.toArray := rfl
  refine ⟨rfl, d'.toList, p3, ?_, ⟨?_, .inr ⟨g, c, _, rfl, hbase, heap_sortedK d' hb, by rw [hlen]; exact hn, hcm, ?_, ?_⟩⟩, grownBy_sortedK d'⟩
  · unfold SortedP
    rw [List.pairwise_iff_getElem]
    intro i j hi hj hij
    have h := hs i j (Nat.zero_le _) hij (by rw [← hlen]; exact hj)
    unfold ltOf at h
    have h := of_decide_eq_false h
    rw [getElem!_pos d' j (by simpa using hj), getElem!_pos d' i (by simpa using hi)] at h
    simpa using h
  · rw [flatMap_len pairC_len]
  · simpa [putCells] using hsz
  · have := take_putPairs cur d'.toList (by rw [hlen, hsz]; omega)
    exact this
end Go.Proofs.Yteljjkghjbofnaa

/-! slices.Grow, slices.Concat at pairs. -/
set_option maxRecDepth 100000
namespace Go.Proofs.Yteljjkghjbofnaa
open Go Go.Proofs Go.RowKit
attribute [local go_sem] Oper.semAt_some

set_option maxHeartbeats 1000000 in
theorem Grow_any (n : Nat) (w : World) (hn : n < 1000000) :
    Calls Try.prog 152 #[.slice none 0 0, .int .i64 n] w (fun e w' => ∃ v, e = .returned v ∧ OwnG w' w.heap.size 83 2 pairC v ([] : List (Int × Int)) ∧ Kept w w') := by
  by_cases h0 : n = 0
  · subst h0
    rw [show ((0 : Nat) : Int) = 0 from rfl]
    go_enter Try.func152, Try.ntmps152
    go_wp2
    go_ret
    exact ⟨_, rfl, OwnG.nil _ _ _ _ _, Kept.refl _⟩
  · have hd : decide ((n : Int) > 0) = true := decide_eq_true (by omega)
    have hd2 : decide (0 < n) = true := decide_eq_true (by omega)
    obtain ⟨i0, hi, hz0, hz1, hz2⟩ := info_parts info83
    have hb : Try.t83.bytes = 16 := rfl
    have hfits := growslice_fits (need := n) (old := 0) (bytes := 16) (by omega) (by omega)
    have hge : n ≤ (Question.appendCap n 0 83).cut (w.tape w.drawn (Question.appendCap n 0 83)) := grownCap_ge w n 0 83
    have hle : (Question.appendCap n 0 83).cut (w.tape w.drawn (Question.appendCap n 0 83)) ≤ maxLen := grownCap_le_maxLen w n 0 83 (by unfold maxLen; omega)
    have HB := Lib.hid hb
    have HF := Lib.hid hfits
    have HGE := Lib.hid hge
    have HLE := Lib.hid hle
    clear hge hle hi hz0 hz1 hz2 hfits hb
    go_enter Try.func152, Try.ntmps152
    go_wp2
    · exfalso; have := HB.out; simp only [this] at *; omega
    · exfalso; have := HB.out; simp only [this] at *; omega
    · exfalso; have h2 := ‹281474976710656 < Builtin.nextslicecap n 0 * Try.t83.bytes›; have h3 := HF.out; rw [HB.out] at h2; omega
    have hk : Kept w ((w.alloc (.cells (Builtin.zeroCells #[Value.int .i64 0, Value.int .i64 0] n ++ Builtin.zeroCells #[Value.int .i64 0, Value.int .i64 0] ((Question.appendCap n 0 83).cut (w.tape w.drawn (Question.appendCap n 0 83)) - n)) 83)).drew) := ((Kept.refl w).alloc _).drew
    go_ret
    refine ⟨_, rfl, ⟨by simp, .inr ⟨w.heap.size, _, _, rfl, Nat.le_refl _, heap_alloc_new w _, Nat.zero_le _, HLE.out, ?_, by simp⟩⟩, hk⟩
    have := HGE.out
    simp [Builtin.zeroCells]
    omega

theorem append_prs {ops : Array Oper} {rest : List Oper} {o : Oper} {a : Act} {Q : Exit → Act → World → Prop} (w : World) (hg : o.guard = none) (s x : Operand)
    (ho : o.op = .call { callee := .builtin .append, args := #[s, x], argTypes := #[22, 22] }) (base : Nat) (v : Value) (l : List (Int × Int)) (hs : a.eval s = v) (hown : OwnG w base 83 2 pairC v l)
    (y : List (Int × Int)) (yo : Option Addr) (c : Nat) (hx : a.eval x = .slice yo y.length c) (hy : Pairs w yo y) (hnil : yo = none → c = 0) (hl : l.length + y.length < 1099511627776) (hbase : base ≤ w.heap.size)
    (h : ∀ v' w', OwnG w' base 83 2 pairC v' (l ++ y) → w.grownBy w' v.ownBlock → wpList Try.prog ops Q rest (a.put o.dst v') w') :
    wpList Try.prog ops Q (o :: rest) a w := by
  obtain ⟨i0, hi, hz0, hz1, hz2⟩ := info_parts info83
  cases yo with
  | none =>
    obtain rfl := hnil rfl
    have hnn : y = [] := by
      cases y with
      | nil => rfl
      | cons z t => obtain ⟨b, off, e, _⟩ := hy 0 (by simp); cases e
    subst hnn
    refine wpList_plain hg fun K hK => ?_
    have hrun := run_append_owned_none (P := Try.prog) w base 22 o.type 83 i0 2 Try.underlying22 hi v _ _ hown
    unfold Oper.wp
    simp [execOp, ho, resolve, invoke, builtin, hs, hx, hrun, Result.andThen]
    refine hK _ _ ?_
    exact h v w (by rw [List.append_nil]; exact hown) ⟨rfl, rfl, rfl, Nat.le_refl _, fun _ _ _ => rfl⟩
  | some ad =>
    refine wpList_append_own w hg s x 22 ho base 83 i0 _ 2 16 Try.underlying22 hi hz0 hz1 hz2 rfl (by decide) v l.length _ hs hown ad y.length c (y.flatMap pairC) hx (flatMap_len pairC_len y)
      (pairs_newsA hy) (pairs_one y) (by unfold maxLen; omega) (by omega) hbase ?_
    intro v' w' h1 h2 _
    refine h v' w' ?_ h2
    unfold OwnG
    rw [List.length_append, List.flatMap_append]
    exact h1

set_option maxHeartbeats 1000000 in
theorem Concat_any (A B : List (Int × Int)) (ao bo : Option Addr) (ca cb g : Nat) (w : World) (hA : Pairs w ao A) (hB : Pairs w bo B) (hna : ao = none → ca = 0) (hnb : bo = none → cb = 0)
    (h0 : w.cell? ⟨g, 0, none⟩ = some (.slice ao A.length ca)) (h1 : w.cell? ⟨g, 1, none⟩ = some (.slice bo B.length cb)) (hla : A.length < 10000) (hlb : B.length < 10000) :
    Calls Try.prog 136 #[.slice (some ⟨g, 0, none⟩) 2 2] w (fun e w' => ∃ v, e = .returned v ∧ OwnG w' w.heap.size 83 2 pairC v (A ++ B) ∧ Kept w w') := by
  have HA := Lib.hid hA
  have HB := Lib.hid hB
  have HNA := Lib.hid hna
  have HNB := Lib.hid hnb
  have H0 := Lib.hid h0
  have H1 := Lib.hid h1
  clear hA hB hna hnb
  go_enter Try.func136, Try.ntmps136
  go_wp2
  go_loopw [3, 11] (fun sv i wr => wr = w ∧ ((i = .int .i64 0 ∧ sv = .int .i64 0) ∨ (i = .int .i64 1 ∧ sv = .int .i64 (A.length : Int)) ∨ (i = .int .i64 2 ∧ sv = .int .i64 ((A.length : Int) + (B.length : Int))))) (fun _ i _ => 2 - (intOf i).toNat)
  case atStart => exact ⟨rfl, .inl ⟨rfl, rfl⟩⟩
  case round =>
    obtain ⟨rfl, ⟨rfl, rfl⟩ | ⟨rfl, rfl⟩ | ⟨rfl, rfl⟩⟩ := hrel
    · go_wp2
      go_roundw
      case measure => simp [intOf]
      case rel => exact ⟨trivial, .inr (.inl ⟨rfl, by go_num⟩)⟩
    · have hw : wrap64 ((A.length : Int) + (B.length : Int)) = (A.length : Int) + (B.length : Int) := IntWalk.wrap64_in _ (by omega)
      have hd : decide ((A.length : Int) + (B.length : Int) < 0) = false := decide_eq_false (by omega)
      go_wp2
      go_roundw
      case measure => simp [intOf]
      case rel => exact ⟨trivial, .inr (.inr ⟨rfl, rfl⟩)⟩
    · go_wp2_with fail
      have hF := Grow_any (A.length + B.length) wr (by omega)
      rw [show ((A.length + B.length : Nat) : Int) = (A.length : Int) + (B.length : Int) from rfl] at hF
      refine hF.mono ?_
      clear hF
      rintro e w1 ⟨v, rfl, hown, hk⟩
      have HO := Lib.hid hown
      have HK := Lib.hid hk
      have c0 := hk.cell H0.out
      have c1 := hk.cell H1.out
      have HC0 := Lib.hid c0
      have HC1 := Lib.hid c1
      clear hown hk c0 c1
      go_wp2
      go_loopw [6, 27] (fun v i wi => Kept wr wi ∧ ((i = .int .i64 0 ∧ OwnG wi wr.heap.size 83 2 pairC v ([] : List (Int × Int))) ∨ (i = .int .i64 1 ∧ OwnG wi wr.heap.size 83 2 pairC v A) ∨ (i = .int .i64 2 ∧ OwnG wi wr.heap.size 83 2 pairC v (A ++ B)))) (fun _ i _ => 2 - (intOf i).toNat)
      case atStart => exact ⟨HK.out, .inl ⟨rfl, HO.out⟩⟩
      case round =>
        obtain ⟨hkr, ⟨rfl, hor⟩ | ⟨rfl, hor⟩ | ⟨rfl, hor⟩⟩ := hrel
        · have c0 := hkr.cell H0.out
          have hlt0 := lt_of_cell c0
          go_wp2_with (at_builtin; refine append_prs _ rfl _ _ rfl _ _ [] rfl hor A ao ca rfl (HA.out.kept hkr) HNA.out (by simp; omega) hkr.size ?_; intro v' w' hov hgb; have HOV := Lib.hid hov; have HGB := Lib.hid (hkr.grown hgb (fun r e => (hor.lt r e).1)); clear hov hgb)
          go_roundw
          case measure => simp [intOf]
          case rel => exact ⟨HGB.out, .inr (.inl ⟨by go_num, HOV.out⟩)⟩
        · have c1 := hkr.cell H1.out
          have hlt1 := lt_of_cell c1
          go_wp2_with (at_builtin; refine append_prs _ rfl _ _ rfl _ _ A rfl hor B bo cb rfl (HB.out.kept hkr) HNB.out (by omega) hkr.size ?_; intro v' w' hov hgb; have HOV := Lib.hid hov; have HGB := Lib.hid (hkr.grown hgb (fun r e => (hor.lt r e).1)); clear hov hgb)
          go_roundw
          case measure => simp [intOf]
          case rel => exact ⟨HGB.out, .inr (.inr ⟨by go_num, HOV.out⟩)⟩
        · go_wp2
          go_ret
          exact ⟨_, rfl, hor, hkr⟩
end Go.Proofs.Yteljjkghjbofnaa

/-! slices.Compact at pairs. -/
set_option maxRecDepth 100000
namespace Go.Proofs.Yteljjkghjbofnaa
open Go Go.Proofs Go.RowKit
attribute [local go_sem] Oper.semAt_some

theorem flat_set : ∀ (l : List (Int × Int)) (k : Nat) (x : Int × Int), k < l.length → (l.set k x).flatMap pairC = ((l.flatMap pairC).set (k * 2) (.int .i64 x.1)).set (k * 2 + 1) (.int .i64 x.2)
  | [], _, _, h => by simp at h
  | y :: t, 0, x, _ => by simp [pairC]
  | y :: t, k + 1, x, h => by
    have ih := flat_set t k x (by simpa using h)
    rw [show (k + 1) * 2 = k * 2 + 1 + 1 by omega, show k * 2 + 1 + 1 + 1 = (k * 2 + 1) + 1 + 1 by omega]
    simp only [List.set_cons_succ, List.flatMap_cons, ih]
    simp [pairC]
theorem raw_setCells (g e : Nat) : ∀ (zs : List Value) (o : Nat) (X : World) (cur : Array Value), X.heap[g]? = some (.cells cur e (0, 0)) →
    ∃ cur', (X.setCells g o zs).heap[g]? = some (.cells cur' e (0, 0)) ∧ cur'.size = cur.size ∧ (∀ j, j < o → cur'[j]? = cur[j]?) ∧ X.grownBy (X.setCells g o zs) (some g)
  | [], o, X, cur, h => ⟨cur, h, rfl, fun _ _ => rfl, ⟨rfl, rfl, rfl, Nat.le_refl _, fun _ _ _ => rfl⟩⟩
  | z :: zs, o, X, cur, h => by
    obtain ⟨cur', h1, h2, h3, h4⟩ := raw_setCells g e zs (o + 1) (X.setCell ⟨g, o, none⟩ z) _ (heap_setCell_same X g o cur e z h)
    refine ⟨cur', h1, by simpa using h2, fun j hj => ?_, ?_⟩
    · rw [h3 j (by omega), Array.getElem?_setIfInBounds, if_neg (by omega)]
    · refine World.grownBy.trans (b := X.setCell ⟨g, o, none⟩ z) ⟨rfl, rfl, rfl, by simp, fun k hk hne => heap_setCell_other X ⟨g, o, none⟩ k z (fun e => hne (by rw [e]))⟩ h4
theorem OwnG.parts {X : World} {base g c n : Nat} {l : List (Int × Int)} (h : OwnG X base 83 2 pairC (.slice (some ⟨g, 0, none⟩) n c) l) :
    ∃ cur, n = l.length ∧ base ≤ g ∧ X.heap[g]? = some (.cells cur 83 (0, 0)) ∧ n ≤ c ∧ c ≤ maxLen ∧ cur.size = c * 2 ∧ cur.toList.take (n * 2) = l.flatMap pairC := by
  rcases h.2 with ⟨h0, _⟩ | ⟨g', cap, cur, hv, hbase, hb, hn, hcm, hsz, htk⟩
  · cases h0
  · simp only [Value.slice.injEq, Option.some.injEq, Addr.mk.injEq] at hv
    obtain ⟨⟨rfl, -, -⟩, rfl, rfl⟩ := hv
    exact ⟨cur, rfl, hbase, hb, hn, hcm, hsz, htk⟩
theorem OwnG.of_parts {X : World} {base g c n : Nat} {l : List (Int × Int)} {cur : Array Value} (h0 : n = l.length) (h1 : base ≤ g) (h2 : X.heap[g]? = some (.cells cur 83 (0, 0))) (h3 : n ≤ c) (h4 : c ≤ maxLen) (h5 : cur.size = c * 2) (h6 : cur.toList.take (n * 2) = l.flatMap pairC) :
    OwnG X base 83 2 pairC (.slice (some ⟨g, 0, none⟩) n c) l := by
  subst h0
  exact ⟨flatMap_len pairC_len l, .inr ⟨g, c, cur, rfl, h1, h2, h3, h4, h5, h6⟩⟩
theorem OwnG.cells2 {X : World} {base g c n : Nat} {d : Array (Int × Int)} (h : OwnG X base 83 2 pairC (.slice (some ⟨g, 0, none⟩) n c) d.toList) {k : Nat} (hk : k < d.size) {x : Int × Int} (hx : d[k]! = x) :
    X.cell? ⟨g, k * 2, none⟩ = some (.int .i64 x.1) ∧ X.cell? ⟨g, k * 2 + 1, none⟩ = some (.int .i64 x.2) := by
  obtain ⟨cur, rfl, hb, hh, hn, hm, hs, ht⟩ := h.parts
  have hkl : k < d.toList.length := by simpa using hk
  have hx' : d.toList[k] = x := by rw [← hx, getElem!_pos d k hk]; simp
  have key : ∀ j, j < 2 → X.cell? ⟨g, k * 2 + j, none⟩ = (pairC x)[j]? := fun j hj => by
    have h1 := flatMap_get pairC_len d.toList k j hkl hj
    rw [hx', ← ht, List.getElem?_take_of_lt (by omega)] at h1
    rw [← h1]
    simp [World.cell?, hh]
  exact ⟨key 0 (by omega), key 1 (by omega)⟩
theorem OwnG.warm {X : World} {base g c n : Nat} {l : List (Int × Int)} (h : OwnG X base 83 2 pairC (.slice (some ⟨g, 0, none⟩) n c) l) (i : Nat) : X.frozen? ⟨g, i, none⟩ = false := by
  obtain ⟨cur, _, _, hh, _⟩ := h.parts
  exact frozen_of_row X g i cur 83 hh
theorem OwnG.set2 {X : World} {base g c n : Nat} {d : Array (Int × Int)} (h : OwnG X base 83 2 pairC (.slice (some ⟨g, 0, none⟩) n c) d.toList) {k : Nat} (hk : k < d.size) (x : Int × Int) :
    OwnG ((X.setCell ⟨g, k * 2, none⟩ (.int .i64 x.1)).setCell ⟨g, k * 2 + 1, none⟩ (.int .i64 x.2)) base 83 2 pairC (.slice (some ⟨g, 0, none⟩) n c) (d.setIfInBounds k x).toList := by
  obtain ⟨cur, rfl, hb, hh, hn, hm, hs, ht⟩ := h.parts
  refine OwnG.of_parts (by simp) hb (heap_setCell_same _ g _ _ 83 _ (heap_setCell_same X g _ cur 83 _ hh)) hn hm (by simpa using hs) ?_
  rw [Array.toList_setIfInBounds, Array.toList_setIfInBounds, Array.toList_setIfInBounds, flat_set _ _ _ (by simpa using hk), ← ht, List.take_set, List.take_set]
theorem set2_grown (X : World) (g i : Nat) (u v : Value) : X.grownBy ((X.setCell ⟨g, i, none⟩ u).setCell ⟨g, i + 1, none⟩ v) (some g) :=
  ⟨rfl, rfl, rfl, by simp, fun k hk hne => by rw [heap_setCell_other _ _ k v (fun e => hne (by rw [e])), heap_setCell_other _ _ k u (fun e => hne (by rw [e]))]⟩
theorem OwnG.done {X : World} {base g c n k : Nat} {l m : List (Int × Int)} (h : OwnG X base 83 2 pairC (.slice (some ⟨g, 0, none⟩) n c) l) (hk : m.length = k) (hkn : k ≤ n) (hm : ∀ j, j < k → m[j]? = l[j]?) (zs : List Value) :
    OwnG (X.setCells g (k * 2) zs) base 83 2 pairC (.slice (some ⟨g, 0, none⟩) k c) m ∧ X.grownBy (X.setCells g (k * 2) zs) (some g) := by
  obtain ⟨cur, hnl, hb, hh, hn, hmx, hs, ht⟩ := h.parts
  obtain ⟨cur', h1, h2, h3, h4⟩ := raw_setCells g 83 zs (k * 2) X cur hh
  refine ⟨OwnG.of_parts hk.symm hb h1 (Nat.le_trans hkn hn) hmx (by rw [h2, hs]) ?_, h4⟩
  have hml : m = l.take k := by
    apply List.ext_getElem?
    intro j
    by_cases hj : j < k
    · rw [hm j hj, List.getElem?_take_of_lt hj]
    · rw [List.getElem?_eq_none (by omega), List.getElem?_take_eq_none (by omega)]
  have hfl : ∀ (l : List (Int × Int)) k, (l.take k).flatMap pairC = (l.flatMap pairC).take (k * 2) := by
    intro l
    induction l with
    | nil => simp
    | cons y t ih =>
      intro k
      cases k with
      | zero => simp
      | succ k => rw [show (k + 1) * 2 = k * 2 + 1 + 1 by omega]; simp [pairC, ih]
  rw [hml, hfl, ← ht, List.take_take, Nat.min_eq_left (by omega)]
  apply List.ext_getElem?
  intro j
  by_cases hj : j < k * 2
  · rw [List.getElem?_take_of_lt hj, List.getElem?_take_of_lt hj]
    have := h3 j hj
    simpa using this
  · rw [List.getElem?_take_eq_none (by omega), List.getElem?_take_eq_none (by omega)]
theorem zeroV83 (w : World) : (zeroValue 83).run Try.prog w = .ok (.agg #[.int .i64 0, .int .i64 0]) w := by kernel_rfl
theorem zero_pairs (n : Nat) : ∀ v ∈ (Builtin.zeroCells #[Value.int .i64 0, Value.int .i64 0] n).toList, v.oneCell' = true := fun v hv => by
  simp [Builtin.zeroCells] at hv
  obtain ⟨i, hi, rfl⟩ := hv
  rcases Nat.mod_two_eq_zero_or_one i with h | h <;> rw [h] <;> rfl
theorem run_clear83 {X : World} {base g c n k : Nat} {l : List (Int × Int)} (h : OwnG X base 83 2 pairC (.slice (some ⟨g, 0, none⟩) n c) l) (hk : k < n) (cc : Nat) (ty : TypeId) :
    (Builtin.clear_ #[22] ty #[.slice (some ⟨g, k * 2, none⟩) (n - k) cc]).run Try.prog X = .ok (.tuple #[]) (X.setCells g (k * 2) (Builtin.zeroCells #[Value.int .i64 0, Value.int .i64 0] (n - k)).toList) := by
  obtain ⟨cur, hnl, hb, hh, hn, hmx, hs, ht⟩ := h.parts
  have hlen : (Builtin.zeroCells #[Value.int .i64 0, Value.int .i64 0] (n - k)).toList.length = (n - k) * 2 := by simp [Builtin.zeroCells]
  have hst := run_storeCells_cells (P := Try.prog) g (k * 2) (Builtin.zeroCells #[Value.int .i64 0, Value.int .i64 0] (n - k)).toList 0 X (by
    intro j hj
    rw [hlen] at hj
    simp [World.cell?, hh]
    omega) (by intro j hj; simp [World.frozen?, hh]) (zero_pairs _)
  simp only [Nat.add_zero] at hst
  obtain ⟨m, hm⟩ : ∃ m, n - k = m + 1 := ⟨n - k - 1, by omega⟩
  rw [hm] at hst ⊢
  have hz : (Value.agg #[Value.int .i64 0, Value.int .i64 0]).cells = #[Value.int .i64 0, Value.int .i64 0] := by kernel_rfl
  simp [Builtin.clear_, run_underlying Try.underlying22, hz, hst]

open Go.Lib in
set_option maxHeartbeats 2000000 in
theorem Compact_any (base g c : Nat) (d : Array (Int × Int)) (w : World) (h : OwnG w base 83 2 pairC (.slice (some ⟨g, 0, none⟩) d.size c) d.toList) (hl : d.size < 100000) :
    Calls Try.prog 138 #[.slice (some ⟨g, 0, none⟩) d.size c] w (fun e w' => ∃ v, e = .returned v ∧ OwnG w' base 83 2 pairC v (compactUpTo d d.size) ∧ w.grownBy w' (some g)) := by
  have HO := Lib.hid h
  have hcap : d.size ≤ c := by
    rcases h.2 with ⟨h0, _⟩ | ⟨g', cap, cur, hv, hbase, hb, hn, hcm, hsz, htk⟩
    · cases h0
    · simp only [Value.slice.injEq] at hv
      obtain ⟨_, _, rfl⟩ := hv
      simpa using hn
  clear h
  by_cases h2 : d.size < 2
  · go_enter Try.func138, Try.ntmps138
    go_wp2
    go_ret
    refine ⟨_, rfl, ?_, ⟨rfl, rfl, rfl, Nat.le_refl _, fun _ _ _ => rfl⟩⟩
    rw [show compactUpTo d d.size = d.toList from by
      rw [compactUpTo_all d d.size (fun j hj => keeps_lt_one d j (by omega)), range_map_get]]
    exact HO.out
  · go_enter Try.func138, Try.ntmps138
    go_wp2
    go_loopg [3] d.size (fun gk s3 wr => ∃ k : Nat, 1 ≤ k ∧ k ≤ d.size ∧ d.size - k ≤ gk ∧ s3 = .int .i64 k ∧ Kept w wr ∧ w.grownBy wr (some g) ∧ ∀ j, j < k → keeps d j = true)
    case atStart => exact ⟨1, Nat.le_refl _, by omega, by omega, rfl, Kept.refl _, ⟨rfl, rfl, rfl, Nat.le_refl _, fun _ _ _ => rfl⟩, keeps_lt_one d⟩
    case round =>
      obtain ⟨k, hk1, hk, hg, rfl, hkr, hgb, hall⟩ := hrel
      have HKR := Lib.hid hkr
      have HGB := Lib.hid hgb
      have A := Lib.hid hall
      clear hkr hgb hall
      by_cases hlt : k < d.size
      · have ho := HO.out.kept HKR.out
        obtain ⟨c0, c1⟩ := ho.cells2 hlt rfl
        obtain ⟨e0, e1⟩ := ho.cells2 (show k - 1 < d.size by omega) rfl
        have hgz := lt_of_cell c0
        have HO2 := Lib.hid ho
        clear ho
        generalize hx : d[k]! = x at c0 c1
        generalize hy : d[k - 1]! = y at e0 e1
        have B := Lib.hid (And.intro hx hy)
        clear hx hy
        have i1 : (0 : Int) ≤ (k : Int) - 1 := by omega
        have i2 : (k : Int) - 1 < (d.size : Int) := by omega
        have i3 : ((k : Int) - 1).toNat = k - 1 := by omega
        have i4 : wrap64 ((k : Int) - 1) = (k : Int) - 1 := IntWalk.wrap64_in _ (by omega)
        have i6 : (k : Int) < (d.size : Int) := by omega
        by_cases hdup : x = y
        · subst hdup
          have b1 : (x.1 == x.1) = true := by simp
          have b2 : (x.2 == x.2) = true := by simp
          go_wp2_with fail
          go_region
          clear c0 c1 e0 e1
          go_wp2
          go_loopg [3, 5] d.size (fun g2 s3 s5 wx => ∃ (kk k2 : Nat) (dk : Array (Int × Int)), s3 = .int .i64 kk ∧ s5 = .int .i64 k2 ∧ 1 ≤ k2 ∧ k + k2 ≤ d.size ∧ d.size - (k + k2) ≤ g2 ∧ OwnG wx base 83 2 pairC (.slice (some ⟨g, 0, none⟩) d.size c) dk.toList ∧ w.grownBy wx (some g) ∧ CompInv d (k + k2) kk dk)
          case atStart => exact ⟨k, 1, d, rfl, rfl, Nat.le_refl _, by omega, by omega, HO2.out.kept ((Kept.refl _).drew), HGB.out.trans ⟨rfl, rfl, rfl, Nat.le_refl _, fun _ _ _ => rfl⟩, CompInv.start A.out (keeps_neg (by omega) (by rw [B.out.1, B.out.2]))⟩
          case round =>
            obtain ⟨kk, k2, dk, rfl, rfl, h1, hle, hg2, ho, hgb, hI⟩ := hrel
            have hkk := hI.lt
            have hds := hI.size
            have I2 := Lib.hid hI
            have HG2 := Lib.hid hgb
            have HO3 := Lib.hid ho
            by_cases hlt2 : k + k2 < d.size
            · obtain ⟨c0, c1⟩ := ho.cells2 (show k + k2 < dk.size by omega) rfl
              obtain ⟨e0, e1⟩ := ho.cells2 (show k + k2 - 1 < dk.size by omega) rfl
              obtain ⟨f0, f1⟩ := ho.cells2 (show kk < dk.size by omega) rfl
              rw [hI.high (k + k2) (by omega), show (k + k2) * 2 = k * 2 + k2 * 2 by omega] at c0 c1
              rw [hI.high (k + k2 - 1) (by omega), show (k + k2 - 1) * 2 = k * 2 + (k2 - 1) * 2 by omega] at e0 e1
              have hgz2 := lt_of_cell c0
              have w0 := ho.warm (kk * 2)
              have w1 := ho.warm (kk * 2 + 1)
              clear hI ho hgb
              generalize hx : d[k + k2]! = u at c0 c1
              generalize hy : d[k + k2 - 1]! = v at e0 e1
              generalize dk[kk]! = old at f0 f1
              have C := Lib.hid (And.intro hx hy)
              clear hx hy
              have i1 : (0 : Int) ≤ (k2 : Int) - 1 := by omega
              have i2 : (k2 : Int) - 1 < ((d.size - k : Nat) : Int) := by omega
              have i3 : ((k2 : Int) - 1).toNat = k2 - 1 := by omega
              have i4 : wrap64 ((k2 : Int) - 1) = (k2 : Int) - 1 := IntWalk.wrap64_in _ (by omega)
              have i6 : (k2 : Int) < ((d.size - k : Nat) : Int) := by omega
              by_cases huv : u = v
              · subst huv
                have b1 : (u.1 == u.1) = true := by simp
                have b2 : (u.2 == u.2) = true := by simp
                go_wp2_with fail
                go_region
                go_wp2
                go_roundg (d.size - (k + (k2 + 1)))
                case measure => omega
                case rel => exact ⟨kk, k2 + 1, dk, rfl, by go_num, by omega, by omega, Nat.le_refl _, HO3.out.kept ((Kept.refl _).drew), HG2.out.trans ⟨rfl, rfl, rfl, Nat.le_refl _, fun _ _ _ => rfl⟩, I2.out.skip (keeps_neg (by omega) (by rw [C.out.1, C.out.2]))⟩
              · rcases (show u.1 ≠ v.1 ∨ (u.1 = v.1 ∧ u.2 ≠ v.2) from by
                  by_cases e1 : u.1 = v.1
                  · exact .inr ⟨e1, fun e2 => huv (Prod.ext e1 e2)⟩
                  · exact .inl e1) with hn | ⟨he, hn⟩
                · have b1 : (u.1 == v.1) = false := by simpa using hn
                  have b3 : decide (u.1 = v.1) = false := by simpa using hn
                  go_wp2_with fail
                  go_region
                  go_wp2
                  go_roundg (d.size - (k + (k2 + 1)))
                  case measure => omega
                  case rel =>
                    have hs := HO3.out.set2 (k := kk) (show kk < dk.size by omega) u
                    have hgx := set2_grown wr g (kk * 2) (.int .i64 u.1) (.int .i64 u.2)
                    have hI := I2.out.keep hlt2 (keeps_pos (by rw [C.out.1, C.out.2]; exact huv))
                    rw [C.out.1] at hI
                    exact ⟨kk + 1, k2 + 1, dk.setIfInBounds kk u, by go_num, by go_num, by omega, by omega, Nat.le_refl _, hs.kept ((Kept.refl _).drew), HG2.out.trans (hgx.trans ⟨rfl, rfl, rfl, Nat.le_refl _, fun _ _ _ => rfl⟩), hI⟩
                · have b1 : (u.1 == v.1) = true := by simpa using he
                  have b3 : decide (u.1 = v.1) = true := by simpa using he
                  have b2 : (u.2 == v.2) = false := by simpa using hn
                  have b4 : decide (u.2 = v.2) = false := by simpa using hn
                  go_wp2_with fail
                  go_region
                  go_wp2
                  go_roundg (d.size - (k + (k2 + 1)))
                  case measure => omega
                  case rel =>
                    have hs := HO3.out.set2 (k := kk) (show kk < dk.size by omega) u
                    have hgx := set2_grown wr g (kk * 2) (.int .i64 u.1) (.int .i64 u.2)
                    rw [he] at hs hgx
                    have hI := I2.out.keep hlt2 (keeps_pos (by rw [C.out.1, C.out.2]; exact huv))
                    rw [C.out.1] at hI
                    exact ⟨kk + 1, k2 + 1, dk.setIfInBounds kk u, by go_num, by go_num, by omega, by omega, Nat.le_refl _, hs.kept ((Kept.refl _).drew), HG2.out.trans (hgx.trans ⟨rfl, rfl, rfl, Nat.le_refl _, fun _ _ _ => rfl⟩), hI⟩
            · have hend : k + k2 = d.size := by omega
              have hcl : ∀ ty, (Builtin.clear_ #[22] ty #[.slice (some ⟨g, kk * 2, none⟩) (d.size - kk) (c - kk)]).run Try.prog wr = .ok (.tuple #[]) (wr.setCells g (kk * 2) (Builtin.zeroCells #[Value.int .i64 0, Value.int .i64 0] (d.size - kk)).toList) := run_clear83 ho (by omega) _
              clear hI ho hgb
              have hnl : ¬ ((k2 : Int) < ((d.size - k : Nat) : Int)) := by omega
              go_wp2
              go_ret
              have hI := I2.out
              rw [hend] at hI
              obtain ⟨r1, r2⟩ := HO3.out.done (m := compactUpTo d d.size) hI.len (by omega) (fun j hj => by
                rw [hI.low j hj, getElem!_pos dk j (by omega)]
                simp [show j < dk.size by omega]) (Builtin.zeroCells #[Value.int .i64 0, Value.int .i64 0] (d.size - kk)).toList
              exact ⟨_, rfl, r1, HG2.out.trans r2⟩
        · rcases (show x.1 ≠ y.1 ∨ (x.1 = y.1 ∧ x.2 ≠ y.2) from by
            by_cases e1 : x.1 = y.1
            · exact .inr ⟨e1, fun e2 => hdup (Prod.ext e1 e2)⟩
            · exact .inl e1) with hn | ⟨he, hn⟩
          · have b1 : (x.1 == y.1) = false := by simpa using hn
            have b3 : decide (x.1 = y.1) = false := by simpa using hn
            go_wp2_with fail
            go_region
            go_wp2
            go_roundg (d.size - (k + 1))
            case measure => omega
            case rel =>
              refine ⟨k + 1, by omega, by omega, Nat.le_refl _, by go_num, HKR.out.drew, HGB.out.trans ⟨rfl, rfl, rfl, Nat.le_refl _, fun _ _ _ => rfl⟩, fun j hj => ?_⟩
              rcases Nat.lt_or_ge j k with h | h
              · exact A.out j h
              · obtain rfl : j = k := by omega
                exact keeps_pos (by rw [B.out.1, B.out.2]; exact hdup)
          · have b1 : (x.1 == y.1) = true := by simpa using he
            have b3 : decide (x.1 = y.1) = true := by simpa using he
            have b2 : (x.2 == y.2) = false := by simpa using hn
            have b4 : decide (x.2 = y.2) = false := by simpa using hn
            go_wp2_with fail
            go_region
            go_wp2
            go_roundg (d.size - (k + 1))
            case measure => omega
            case rel =>
              refine ⟨k + 1, by omega, by omega, Nat.le_refl _, by go_num, HKR.out.drew, HGB.out.trans ⟨rfl, rfl, rfl, Nat.le_refl _, fun _ _ _ => rfl⟩, fun j hj => ?_⟩
              rcases Nat.lt_or_ge j k with h | h
              · exact A.out j h
              · obtain rfl : j = k := by omega
                exact keeps_pos (by rw [B.out.1, B.out.2]; exact hdup)
      · have hend : k = d.size := by omega
        go_wp2
        go_ret
        refine ⟨_, rfl, ?_, HGB.out⟩
        rw [show compactUpTo d d.size = d.toList from by
          rw [compactUpTo_all d d.size (fun j hj => A.out j (by omega)), range_map_get]]
        exact HO.out.kept HKR.out
end Go.Proofs.Yteljjkghjbofnaa

/-! order.Join's closure: the union of two lists of pairs, in order. -/
set_option maxRecDepth 100000
namespace Go.Proofs.Yteljjkghjbofnaa
open Go Go.Proofs Go.RowKit
attribute [local go_sem] Oper.semAt_some

set_option maxHeartbeats 1000000 in
theorem ins_nil (w : World) (f : Value) :
    Calls Try.prog 156 #[.slice none 0 0, .int .i64 0, .int .i64 0, f] w (fun e w' => e = .returned (.tuple #[]) ∧ w' = w) := by
  go_enter Try.func156, Try.ntmps156
  go_wp2
  go_loopg [8] 0 (fun gk s8 wr => s8 = .int .i64 1 ∧ wr = w)
  case atStart => exact ⟨rfl, rfl⟩
  case round =>
    obtain ⟨rfl, rfl⟩ := hrel
    go_wp2
    refine bodyPost_end (results_none rfl _ _ _) rfl ?_
    exact ⟨rfl, rfl⟩

set_option maxHeartbeats 1000000 in
theorem sort_nil (w : World) :
    Calls Try.prog 137 #[.slice none 0 0, .func (.func 81) #[] #[]] w (fun e w' => e = .returned (.tuple #[]) ∧ w' = w) := by
  go_enter Try.func137, Try.ntmps137
  go_wp2
  go_loopg [1, 2] 0 (fun gk s1 s2 wr => s1 = .int .i64 0 ∧ s2 = .int .i64 0 ∧ wr = w)
  case atStart => exact ⟨rfl, rfl, rfl⟩
  case round =>
    obtain ⟨rfl, rfl, rfl⟩ := hrel
    go_wp2_with fail
    refine (ins_nil _ _).mono ?_
    rintro e w' ⟨rfl, rfl⟩
    go_wp2
    refine bodyPost_ret (results_none rfl _ _ _) rfl ?_
    go_wp2
    refine bodyPost_end (results_none rfl _ _ _) rfl ?_
    exact ⟨rfl, rfl⟩
set_option maxHeartbeats 1000000 in
theorem comp_nil (w : World) :
    Calls Try.prog 138 #[.slice none 0 0] w (fun e w' => e = .returned (.slice none 0 0) ∧ w' = w) := by
  go_enter Try.func138, Try.ntmps138
  go_wp2
  go_ret
  exact ⟨rfl, rfl⟩

/-- m is the union of A and B, in strict order. -/
def UnionP (A B m : List (Int × Int)) : Prop := m.Pairwise (fun a b => cmpP a b < 0) ∧ ∀ x, x ∈ m ↔ x ∈ A ∨ x ∈ B

theorem cmpP_tri {x y : Int × Int} (h : ¬ cmpP y x < 0) (hne : y ≠ x) : cmpP x y < 0 := by
  rw [cmpP_lt] at *
  by_cases h1 : x.1 = y.1
  · by_cases h2 : x.2 = y.2
    · exact (hne (Prod.ext h1.symm h2.symm)).elim
    · omega
  · omega
theorem cmpP_trans' {x y z : Int × Int} (h : cmpP x y < 0) (k : cmpP y z < 0) : cmpP x z < 0 := by
  rw [cmpP_lt] at *
  omega
open Go.Lib in
theorem compact_sorted {d : Array (Int × Int)} (hs : SortedP d.toList) : ∀ m, m ≤ d.size → (compactUpTo d m).Pairwise (fun a b => cmpP a b < 0) ∧ (∀ x ∈ compactUpTo d m, x = d[m - 1]! ∨ cmpP x d[m - 1]! < 0) ∧ ∀ x, x ∈ compactUpTo d m ↔ ∃ j, j < m ∧ d[j]! = x
  | 0, _ => ⟨by simp [compactUpTo], by simp [compactUpTo], by simp [compactUpTo]⟩
  | m + 1, hm => by
    obtain ⟨h1, h2, h3⟩ := compact_sorted hs m (by omega)
    rw [compactUpTo_succ]
    by_cases hk : keeps d m = true
    · rw [if_pos hk]
      have hlt : ∀ x ∈ compactUpTo d m, cmpP x d[m]! < 0 := by
        intro x hx
        obtain ⟨j, hj, _⟩ := (h3 x).1 hx
        have hne : d[m]! ≠ d[m - 1]! := by
          have := of_decide_eq_true hk
          rcases this with h | h
          · omega
          · exact h
        have hle : ¬ cmpP d[m]! d[m - 1]! < 0 := by
          have := List.pairwise_iff_getElem.1 hs (m - 1) m (by simp; omega) (by simp; omega) (by omega)
          rw [getElem!_pos d m (by omega), getElem!_pos d (m - 1) (by omega)]
          simpa using this
        have h4 := cmpP_tri hle hne
        rcases h2 x hx with rfl | h
        · exact h4
        · exact cmpP_trans' h h4
      refine ⟨List.pairwise_append.2 ⟨h1, by simp, fun x hx y hy => ?_⟩, fun x hx => ?_, fun x => ?_⟩
      · obtain rfl : y = d[m]! := by simpa using hy
        exact hlt x hx
      · rcases List.mem_append.1 hx with h | h
        · exact .inr (hlt x h)
        · exact .inl (by simpa using h)
      · constructor
        · intro hx
          rcases List.mem_append.1 hx with h | h
          · obtain ⟨j, hj, e⟩ := (h3 x).1 h
            exact ⟨j, by omega, e⟩
          · exact ⟨m, by omega, (by simpa using h : x = d[m]!).symm⟩
        · rintro ⟨j, hj, e⟩
          by_cases hjm : j = m
          · subst hjm
            exact List.mem_append.2 (.inr (by simp [e]))
          · exact List.mem_append.2 (.inl ((h3 x).2 ⟨j, by omega, e⟩))
    · rw [if_neg hk, List.append_nil]
      have hm0 : m ≠ 0 ∧ d[m]! = d[m - 1]! := by
        unfold keeps at hk
        simpa using hk
      refine ⟨h1, fun x hx => ?_, fun x => ?_⟩
      · rw [Nat.add_sub_cancel, hm0.2]
        exact h2 x hx
      · rw [h3]
        constructor
        · rintro ⟨j, hj, e⟩
          exact ⟨j, by omega, e⟩
        · rintro ⟨j, hj, e⟩
          by_cases hjm : j = m
          · subst hjm
            exact ⟨j - 1, by omega, by rw [← hm0.2, e]⟩
          · exact ⟨j, by omega, e⟩
open Go.Lib in
theorem union_compact {A B l : List (Int × Int)} (hp : l.Perm (A ++ B)) (hs : SortedP l) : UnionP A B (compactUpTo l.toArray l.toArray.size) := by
  obtain ⟨h1, _, h3⟩ := compact_sorted (d := l.toArray) hs l.toArray.size (Nat.le_refl _)
  refine ⟨h1, fun x => ?_⟩
  rw [h3, ← List.mem_append, ← hp.mem_iff]
  constructor
  · rintro ⟨j, hj, e⟩
    rw [getElem!_pos l.toArray j hj] at e
    rw [← e]
    simp
  · intro hx
    obtain ⟨j, hj, e⟩ := List.getElem_of_mem hx
    exact ⟨j, by simpa using hj, by rw [getElem!_pos l.toArray j (by simpa using hj)]; simpa using e⟩

open Go.Lib in
theorem Compact_n (base g c n : Nat) (d : Array (Int × Int)) (w : World) (hn : d.size = n) (h : OwnG w base 83 2 pairC (.slice (some ⟨g, 0, none⟩) n c) d.toList) (hl : d.size < 100000) :
    Calls Try.prog 138 #[.slice (some ⟨g, 0, none⟩) n c] w (fun e w' => ∃ v, e = .returned v ∧ OwnG w' base 83 2 pairC v (compactUpTo d d.size) ∧ w.grownBy w' (some g)) := by
  subst hn
  exact Compact_any base g c d w h hl
set_option maxHeartbeats 1000000 in
theorem JoinC_any (A B : List (Int × Int)) (ao bo : Option Addr) (ca cb : Nat) (w : World) (hA : Pairs w ao A) (hB : Pairs w bo B) (hna : ao = none → ca = 0) (hnb : bo = none → cb = 0) (hla : A.length < 10000) (hlb : B.length < 10000) :
    Calls Try.prog 135 #[.slice ao A.length ca, .slice bo B.length cb] w (fun e w' => ∃ v m, e = .returned v ∧ OwnG w' w.heap.size 83 2 pairC v m ∧ UnionP A B m ∧ Kept w w') := by
  have hk0 : Kept w (w.alloc (.cells #[Value.slice ao A.length ca, Value.slice bo B.length cb] 22)) := (Kept.refl w).alloc _
  have hc := Concat_any A B ao bo ca cb w.heap.size (w.alloc (.cells #[Value.slice ao A.length ca, Value.slice bo B.length cb] 22)) (hA.kept hk0) (hB.kept hk0) hna hnb
    (by unfold World.cell?; rw [show (w.alloc (.cells #[Value.slice ao A.length ca, Value.slice bo B.length cb] 22)).heap[w.heap.size]? = _ from heap_alloc_new w _]; rfl) (by unfold World.cell?; rw [show (w.alloc (.cells #[Value.slice ao A.length ca, Value.slice bo B.length cb] 22)).heap[w.heap.size]? = _ from heap_alloc_new w _]; rfl) hla hlb
  have HC := Lib.hid hc
  have HK0 := Lib.hid hk0
  have hab2 : A.length + B.length < 20000 := by omega
  have HAB := Lib.hid hab2
  clear hc hk0 hA hB hna hnb hab2
  go_enter Try.func135, Try.ntmps135
  go_wp2_with fail
  refine HC.out.mono ?_
  rintro e w1 ⟨v, rfl, hown, hk1⟩
  have HK1 := Lib.hid (HK0.out.trans hk1)
  have hsz : w.heap.size ≤ (w.alloc (.cells #[Value.slice ao A.length ca, Value.slice bo B.length cb] 22)).heap.size := HK0.out.size
  have HSZ := Lib.hid hsz
  obtain ⟨l, hl⟩ : ∃ l, l = A ++ B := ⟨_, rfl⟩
  rw [← hl] at hown
  have hll0 : l.length < 20000 := by rw [hl, List.length_append]; exact HAB.out
  have HEL := Lib.hid hl
  clear hk1 hsz hl
  rcases hown.2 with ⟨rfl, hnil⟩ | ⟨g, cap, cur, rfl, hbg, _⟩
  · have hab : A ++ B = [] := HEL.out.symm.trans (List.length_eq_zero_iff.1 hnil)
    obtain rfl : l = [] := List.length_eq_zero_iff.1 hnil
    have HN := Lib.hid hab
    have HO := Lib.hid hown
    clear hnil hab hown
    go_wp2_with fail
    refine (sort_nil _).mono ?_
    rintro e w2 ⟨rfl, rfl⟩
    go_wp2_with fail
    refine (comp_nil _).mono ?_
    rintro e w2 ⟨rfl, rfl⟩
    go_wp2
    go_ret
    refine ⟨_, [], rfl, OwnG.nil _ _ _ _ _, ?_, HK1.out⟩
    have h := List.append_eq_nil_iff.1 HN.out
    rw [h.1, h.2]
    exact ⟨List.Pairwise.nil, fun x => by simp⟩
  · have HBG := Lib.hid hbg
    have HO := Lib.hid hown
    clear hown hbg
    go_wp2_with fail
    refine (sortP_any _ g cap l _ HO.out (by omega)).mono ?_
    rintro e w2 ⟨rfl, l', hp, hs, ho, hg⟩
    have HP := Lib.hid hp
    have HS := Lib.hid hs
    have HO2 := Lib.hid ho
    have HK2 := Lib.hid (HK1.out.grown hg (fun r e => by cases e; exact Nat.le_trans HSZ.out HBG.out))
    have hle := hp.length_eq
    have HL := Lib.hid hle
    clear hp hs ho hg hle
    have hll : l'.toArray.size < 100000 := by rw [List.size_toArray, HL.out]; omega
    have hcc := Compact_n _ g cap l.length l'.toArray w2 HL.out (by rw [← HL.out]; exact HO2.out) hll
    have HCC := Lib.hid hcc
    clear hcc
    go_wp2_with fail
    refine HCC.out.mono ?_
    rintro e w3 ⟨v, rfl, ho, hg⟩
    have HO3 := Lib.hid ho
    have HK3 := Lib.hid (HK2.out.grown hg (fun r e => by cases e; exact Nat.le_trans HSZ.out HBG.out))
    clear ho hg
    go_wp2
    go_ret
    have hb := HSZ.out
    refine ⟨_, _, rfl, HO3.out.base' hb, union_compact ?_ HS.out, HK3.out⟩
    rw [← HEL.out]
    exact HP.out
end Go.Proofs.Yteljjkghjbofnaa

/-! order.Join. -/
set_option maxRecDepth 100000
namespace Go.Proofs.Yteljjkghjbofnaa
open Go Go.Proofs Go.RowKit
attribute [local go_sem] Oper.semAt_some

/-- x put into its place in l, if it is not there. -/
def insP : List (Int × Int) → Int × Int → List (Int × Int)
  | [], x => [x]
  | y :: t, x => if cmpP y x < 0 then y :: insP t x else if y = x then y :: t else x :: y :: t
def uniP (A B : List (Int × Int)) : List (Int × Int) := B.foldl insP A

theorem insP_mem : ∀ (l : List (Int × Int)) (x y : Int × Int), y ∈ insP l x ↔ y ∈ l ∨ y = x
  | [], x, y => by simp [insP]
  | z :: t, x, y => by
    unfold insP
    split
    · rw [List.mem_cons, insP_mem t x y, List.mem_cons, or_assoc]
    · split
      · rename_i h1 h2
        subst h2
        simp only [List.mem_cons]
        constructor
        · intro h; exact .inl h
        · rintro (h | rfl)
          · exact h
          · exact .inl rfl
      · simp only [List.mem_cons]
        constructor
        · rintro (h | h | h)
          · exact .inr h
          · exact .inl (.inl h)
          · exact .inl (.inr h)
        · rintro ((h | h) | h)
          · exact .inr (.inl h)
          · exact .inr (.inr h)
          · exact .inl h
theorem insP_lt : ∀ (l : List (Int × Int)) (x : Int × Int), l.Pairwise (fun a b => cmpP a b < 0) → (insP l x).Pairwise (fun a b => cmpP a b < 0)
  | [], x, _ => by simp [insP]
  | z :: t, x, h => by
    obtain ⟨h1, h2⟩ := List.pairwise_cons.1 h
    unfold insP
    split
    · rename_i hc
      refine List.pairwise_cons.2 ⟨fun y hy => ?_, insP_lt t x h2⟩
      rcases (insP_mem t x y).1 hy with hy | rfl
      · exact h1 y hy
      · exact hc
    · split
      · exact h
      · rename_i hc hne
        have hxz : cmpP x z < 0 := cmpP_tri hc hne
        refine List.pairwise_cons.2 ⟨fun y hy => ?_, h⟩
        rcases List.mem_cons.1 hy with rfl | hy
        · exact hxz
        · exact cmpP_trans hxz (h1 y hy)
theorem uniP_union : ∀ (B A : List (Int × Int)), A.Pairwise (fun a b => cmpP a b < 0) → UnionP A B (uniP A B)
  | [], A, h => ⟨h, fun x => by simp [uniP]⟩
  | y :: B, A, h => by
    obtain ⟨h1, h2⟩ := uniP_union B (insP A y) (insP_lt A y h)
    refine ⟨h1, fun x => ?_⟩
    have := h2 x
    rw [insP_mem] at this
    show x ∈ uniP (insP A y) B ↔ _
    rw [this, List.mem_cons, or_assoc]
theorem strict_ext : ∀ {l m : List (Int × Int)}, l.Pairwise (fun a b => cmpP a b < 0) → m.Pairwise (fun a b => cmpP a b < 0) → (∀ x, x ∈ l ↔ x ∈ m) → l = m
  | [], [], _, _, _ => rfl
  | [], y :: m, _, _, h => absurd ((h y).2 (by simp)) (by simp)
  | x :: l, [], _, _, h => absurd ((h x).1 (by simp)) (by simp)
  | x :: l, y :: m, hl, hm, h => by
    obtain ⟨a1, a2⟩ := List.pairwise_cons.1 hl
    obtain ⟨b1, b2⟩ := List.pairwise_cons.1 hm
    have hxy : x = y := by
      rcases List.mem_cons.1 ((h x).1 (by simp)) with e | hx
      · exact e
      · rcases List.mem_cons.1 ((h y).2 (by simp)) with e | hy
        · exact e.symm
        · exact absurd (cmpP_trans (b1 x hx) (a1 y hy)) (cmpP_irr y)
    subst hxy
    have : l = m := strict_ext a2 b2 fun z => by
      have hz := h z
      simp only [List.mem_cons] at hz
      constructor
      · intro hzl
        rcases hz.1 (.inr hzl) with rfl | h'
        · exact absurd (a1 z hzl) (cmpP_irr z)
        · exact h'
      · intro hzm
        rcases hz.2 (.inr hzm) with rfl | h'
        · exact absurd (b1 z hzm) (cmpP_irr z)
        · exact h'
    rw [this]
theorem union_uni {A B m : List (Int × Int)} (hA : A.Pairwise (fun a b => cmpP a b < 0)) (h : UnionP A B m) : m = uniP A B := by
  obtain ⟨h1, h2⟩ := uniP_union B A hA
  exact strict_ext h.1 h1 fun x => by rw [h.2, h2]

def JoinR (o p : Prob) : Prob × Int := if chk o ≠ 0 then (⟨0, [], []⟩, chk o) else if chk p ≠ 0 then (⟨0, [], []⟩, chk p) else if o.N ≠ p.N then (⟨0, [], []⟩, 1) else (⟨o.N, uniP o.arcs p.arcs, uniP o.near p.near⟩, 0)

theorem alloc_two (X : World) (v0 v1 v2 v3 v4 v5 : Value) :
    ∃ Y, X.alloc (.cells #[v0, v1, v2, v3, v4, v5] 24) = Y ∧ Kept X Y ∧ (Y.cell? ⟨X.heap.size, 0, none⟩ = some v0 ∧ Y.cell? ⟨X.heap.size, 1, none⟩ = some v1 ∧ Y.cell? ⟨X.heap.size, 2, none⟩ = some v2) ∧
      (Y.cell? ⟨X.heap.size, 3, none⟩ = some v3 ∧ Y.cell? ⟨X.heap.size, 4, none⟩ = some v4 ∧ Y.cell? ⟨X.heap.size, 5, none⟩ = some v5) :=
  ⟨_, rfl, (Kept.refl X).alloc _, ⟨by simp [go_sem], by simp [go_sem], by simp [go_sem]⟩, ⟨by simp [go_sem], by simp [go_sem], by simp [go_sem]⟩⟩
theorem cell_set3 {X : World} {g k : Nat} {i : Nat} {u v0 v1 v2 : Value} (h : X.cell? ⟨g, i, none⟩ = some u) (hne : g ≠ k) : (((X.setCell ⟨k, 0, none⟩ v0).setCell ⟨k, 1, none⟩ v1).setCell ⟨k, 2, none⟩ v2).cell? ⟨g, i, none⟩ = some u :=
  cell_set_block (cell_set_block (cell_set_block h hne) hne) hne
theorem size_set3 {X : World} {g k : Nat} {v0 v1 v2 : Value} (h : g < X.heap.size) : g < (((X.setCell ⟨k, 0, none⟩ v0).setCell ⟨k, 1, none⟩ v1).setCell ⟨k, 2, none⟩ v2).heap.size := by simpa using h
theorem ris_nodupJ {l : List (Int × Int)} (h : risB l = true) : l.Nodup := by
  rw [risB_pw] at h
  rw [List.nodup_iff_pairwise_ne]
  refine List.Pairwise.imp (fun {a b} h e => ?_) h
  subst e
  simp [cmpP, orI, cmpI] at h
theorem near_lenJ {o : Prob} (hc : chk o = 0) : o.near.length ≤ 576 := by
  have hr : risB o.near = true := by
    unfold chk at hc
    split at hc
    · cases hc
    · split at hc
      · cases hc
      · rename_i h
        cases hr : risB o.near
        · exact absurd (.inr (.inr (.inr (.inr (.inl hr))))) h
        · rfl
  obtain ⟨h0, h24, _, hp⟩ := pair_of_chk hc
  have hsub : o.near ⊆ (List.range 24).flatMap (fun a => (List.range 24).map fun b => (((a : Nat) : Int), ((b : Nat) : Int))) := fun x hx => by
    have := hp x hx
    refine List.mem_flatMap.2 ⟨x.1.toNat, List.mem_range.2 (by omega), List.mem_map.2 ⟨x.2.toNat, List.mem_range.2 (by omega), ?_⟩⟩
    rw [Int.toNat_of_nonneg (by omega), Int.toNat_of_nonneg (by omega)]
  have := List.Nodup.length_le_of_subset (ris_nodupJ hr) hsub
  have e : ((List.range 24).flatMap (fun a => (List.range 24).map fun b => (((a : Nat) : Int), ((b : Nat) : Int)))).length = 576 := by decide +kernel
  omega
theorem arcs_len {o : Prob} (hc : chk o = 0) : o.arcs.length ≤ 576 := by
  obtain ⟨h0, h24, hp, _⟩ := pair_of_chk hc
  have hsub : o.arcs ⊆ (List.range 24).flatMap (fun a => (List.range 24).map fun b => (((a : Nat) : Int), ((b : Nat) : Int))) := fun x hx => by
    have := hp x hx
    refine List.mem_flatMap.2 ⟨x.1.toNat, List.mem_range.2 (by omega), List.mem_map.2 ⟨x.2.toNat, List.mem_range.2 (by omega), ?_⟩⟩
    rw [Int.toNat_of_nonneg (by omega), Int.toNat_of_nonneg (by omega)]
  have := List.Nodup.length_le_of_subset (ris_nodupJ (chk_parts hc)) hsub
  have e : ((List.range 24).flatMap (fun a => (List.range 24).map fun b => (((a : Nat) : Int), ((b : Nat) : Int)))).length = 576 := by decide +kernel
  omega
theorem chk_near_ris {o : Prob} (hc : chk o = 0) : risB o.near = true := by
  unfold chk at hc
  split at hc
  · cases hc
  · split at hc
    · cases hc
    · rename_i h
      cases hr : risB o.near
      · exact absurd (.inr (.inr (.inr (.inr (.inl hr))))) h
      · rfl
set_option maxHeartbeats 8000000 in
theorem Join_any (o p : Prob) (ao bo ap bp : Option Addr) (ca cb da db : Nat) (w : World) (ho : IsProb w o ao bo) (hp : IsProb w p ap bp) (hna : ao = none → ca = 0) (hnb : bo = none → cb = 0) (hma : ap = none → da = 0) (hmb : bp = none → db = 0) :
    Calls Try.prog 70 #[probV o ao ca bo cb, probV p ap da bp db] w (ProbPost (JoinR o p).1 (JoinR o p).2 w) := by
  have HO := Lib.hid ho
  have HP := Lib.hid hp
  have HNA := Lib.hid hna
  have HNB := Lib.hid hnb
  have HMA := Lib.hid hma
  have HMB := Lib.hid hmb
  clear ho hp hna hnb hma hmb
  obtain ⟨R, hR⟩ : ∃ R, JoinR o p = R := ⟨_, rfl⟩
  rw [hR]
  have HR := Lib.hid hR
  clear hR
  go_enter Try.func70, Try.ntmps70
  go_wp2_with fail
  obtain ⟨w0, e0, hk0, hb0, e5⟩ := alloc_prob w o.N o.arcs o.near ao ca bo cb
  rw [e0]
  clear e0
  obtain ⟨w1, e1, hk1, hb1, e6⟩ := alloc_prob w0 p.N p.arcs p.near ap da bp db
  rw [e1]
  clear e1
  have hb2 := PBox.new w1 0 (.slice none 0 0) (.slice none 0 0)
  have hk2 : Kept w1 (w1.alloc (.cells #[.int .i64 0, .slice none 0 0, .slice none 0 0] 24)) := (Kept.refl _).alloc _
  have e7 : w1.heap.size + 1 = (w1.alloc (.cells #[.int .i64 0, .slice none 0 0, .slice none 0 0] 24)).heap.size := by simp
  generalize w1.alloc (.cells #[.int .i64 0, .slice none 0 0, .slice none 0 0] 24) = w2 at *
  obtain ⟨w3, e3, hk3, hca, hcb⟩ := alloc_two w2 (.int .i64 o.N) (.slice ao o.arcs.length ca) (.slice bo o.near.length cb) (.int .i64 p.N) (.slice ap p.arcs.length da) (.slice bp p.near.length db)
  rw [e3]
  clear e3
  obtain ⟨g0, hg0⟩ : ∃ g0, w.heap.size = g0 := ⟨_, rfl⟩
  obtain ⟨g1, hg1⟩ : ∃ g1, w.heap.size + 1 = g1 := ⟨_, rfl⟩
  obtain ⟨g2, hg2⟩ : ∃ g2, w.heap.size + 1 + 1 = g2 := ⟨_, rfl⟩
  obtain ⟨g3, hg3⟩ : ∃ g3, w.heap.size + 1 + 1 + 1 = g3 := ⟨_, rfl⟩
  rw [hg0] at hb0
  rw [show w0.heap.size = g1 by omega] at hb1
  rw [show w1.heap.size = g2 by omega] at hb2
  rw [show w2.heap.size = g3 by omega] at hca hcb
  rw [hg3, hg2, hg1, hg0]
  have HBO := Lib.hid (hb0.kept ((hk1.trans hk2).trans hk3))
  have HBP := Lib.hid (hb1.kept (hk2.trans hk3))
  have HB2 := Lib.hid (hb2.kept hk3)
  have HCA := Lib.hid hca
  have HCB := Lib.hid hcb
  have HK3 := Lib.hid (((hk0.trans hk1).trans hk2).trans hk3)
  have HG2 : Hid (w.heap.size ≤ g2) := Lib.hid (by omega)
  have HN0 : Hid (g0 ≠ g2) := Lib.hid (by omega)
  have HN1 : Hid (g1 ≠ g2) := Lib.hid (by omega)
  have HG3 : Hid (g2 < w3.heap.size) := Lib.hid (by have := hk3.size; omega)
  clear hk0 hb0 e5 hk1 hb1 e6 hk2 hb2 e7 hk3 hca hcb hg0 hg1 hg2 hg3
  go_loopw [14] (fun i wr => Kept w3 wr ∧ (i = .int .i64 0 ∨ (i = .int .i64 1 ∧ chk o = 0) ∨ (i = .int .i64 2 ∧ chk o = 0 ∧ chk p = 0))) (fun i _ => 2 - (intOf i).toNat)
  case atStart => exact ⟨Kept.refl _, .inl rfl⟩
  case round =>
    obtain ⟨hk, hrel⟩ := hrel
    have HKR := Lib.hid hk
    clear hk
    rcases hrel with rfl | ⟨rfl, hco⟩ | ⟨rfl, hco, hcp⟩
    · skip
      have q0 := HKR.out.cell HCA.out.1
      have q1 := HKR.out.cell HCA.out.2.1
      have q2 := HKR.out.cell HCA.out.2.2
      have qb := lt_of_cell q0
      have HKA := Lib.hid (HKR.out.alloc (.cells #[.int .i64 o.N, .slice ao o.arcs.length ca, .slice bo o.near.length cb] 24))
      have HCH := Lib.hid (Check_any o ao bo ca cb _ (HO.out.kept (HK3.out.trans HKA.out)))
      go_wp2_with fail
      refine HCH.out.mono ?_
      clear HCH
      rintro e w5 ⟨rfl, hk5⟩
      have HK5 := Lib.hid (HKA.out.trans hk5)
      clear hk5 q0 q1 q2 qb
      by_cases hc : chk o = 0
      · have b1 : (chk o != 0) = false := by simp [hc]
        have HX := Lib.hid hc
        clear hc
        go_wp2
        go_roundw
        case measure => simp [intOf]
        case rel => exact ⟨HK5.out, .inr (.inl ⟨by go_num, HX.out⟩)⟩
      · have b1 : (chk o != 0) = true := by simp [hc]
        have HX := Lib.hid hc
        clear hc
        obtain ⟨p0, p1, p2, pf⟩ := HB2.out.kept HK5.out
        have f0 := pf 0
        have f1 := pf 1
        have f2 := pf 2
        have pb := lt_of_cell p0
        clear pf
        have HP9 := Lib.hid ((HB2.out.kept HK5.out).set 0 (.slice none 0 0) (.slice none 0 0))
        go_wp2
        refine bodyPost_ret (results_cell_tmp rfl _ _ ⟨g2, 0, none⟩ rfl _ (load24 HP9.out.c0 HP9.out.c1 HP9.out.c2)) rfl ?_
        have hres : R = (⟨0, [], []⟩, chk o) := by
          rw [← HR.out]
          unfold JoinR
          rw [if_pos HX.out]
        rw [hres]
        exact ⟨none, 0, none, 0, rfl, OwnG.nil _ _ _ _ _, OwnG.nil _ _ _ _ _, (((HK3.out.trans HK5.out).setCell (p := ⟨g2, 0, none⟩) HG2.out _).setCell (p := ⟨g2, 1, none⟩) HG2.out _).setCell (p := ⟨g2, 2, none⟩) HG2.out _⟩
    · have HC1 := Lib.hid hco
      clear hco
      have q0 := HKR.out.cell HCB.out.1
      have q1 := HKR.out.cell HCB.out.2.1
      have q2 := HKR.out.cell HCB.out.2.2
      have qb := lt_of_cell q0
      have HKA := Lib.hid (HKR.out.alloc (.cells #[.int .i64 p.N, .slice ap p.arcs.length da, .slice bp p.near.length db] 24))
      have HCH := Lib.hid (Check_any p ap bp da db _ (HP.out.kept (HK3.out.trans HKA.out)))
      go_wp2_with fail
      refine HCH.out.mono ?_
      clear HCH
      rintro e w5 ⟨rfl, hk5⟩
      have HK5 := Lib.hid (HKA.out.trans hk5)
      clear hk5 q0 q1 q2 qb
      by_cases hc : chk p = 0
      · have b1 : (chk p != 0) = false := by simp [hc]
        have HX := Lib.hid hc
        clear hc
        go_wp2
        go_roundw
        case measure => simp [intOf]
        case rel => exact ⟨HK5.out, .inr (.inr ⟨by go_num, HC1.out, HX.out⟩)⟩
      · have b1 : (chk p != 0) = true := by simp [hc]
        have HX := Lib.hid hc
        clear hc
        obtain ⟨p0, p1, p2, pf⟩ := HB2.out.kept HK5.out
        have f0 := pf 0
        have f1 := pf 1
        have f2 := pf 2
        have pb := lt_of_cell p0
        clear pf
        have HP9 := Lib.hid ((HB2.out.kept HK5.out).set 0 (.slice none 0 0) (.slice none 0 0))
        go_wp2
        refine bodyPost_ret (results_cell_tmp rfl _ _ ⟨g2, 0, none⟩ rfl _ (load24 HP9.out.c0 HP9.out.c1 HP9.out.c2)) rfl ?_
        have hres : R = (⟨0, [], []⟩, chk p) := by
          rw [← HR.out]
          unfold JoinR
          rw [if_neg (by rw [HC1.out]; simp), if_pos HX.out]
        rw [hres]
        exact ⟨none, 0, none, 0, rfl, OwnG.nil _ _ _ _ _, OwnG.nil _ _ _ _ _, (((HK3.out.trans HK5.out).setCell (p := ⟨g2, 0, none⟩) HG2.out _).setCell (p := ⟨g2, 1, none⟩) HG2.out _).setCell (p := ⟨g2, 2, none⟩) HG2.out _⟩
    · have HC1 := Lib.hid hco
      have HC2 := Lib.hid hcp
      clear hco hcp
      obtain ⟨q0, q1, q2⟩ := HBO.out.kept HKR.out
      obtain ⟨r0, r1, r2⟩ := HBP.out.kept HKR.out
      have qb := lt_of_cell q0
      have rb := lt_of_cell r0
      by_cases hN : o.N = p.N
      · have b1 : (o.N != p.N) = false := by simp [hN]
        have HX := Lib.hid hN
        clear hN
        have HJ1 := Lib.hid fun (X : World) (hk : Kept w3 X) => JoinC_any o.arcs p.arcs ao ap ca da X (HO.out.arcs.kept (HK3.out.trans hk)) (HP.out.arcs.kept (HK3.out.trans hk)) HNA.out HMA.out (by have := arcs_len HC1.out; omega) (by have := arcs_len HC2.out; omega)
        have HJ2 := Lib.hid fun (X : World) (hk : Kept w3 X) => JoinC_any o.near p.near bo bp cb db X (HO.out.near.kept (HK3.out.trans hk)) (HP.out.near.kept (HK3.out.trans hk)) HNB.out HMB.out (by have := near_lenJ HC1.out; omega) (by have := near_lenJ HC2.out; omega)
        go_wp2_with fail
        have n0 := HN0.out
        have n1 := HN1.out
        go_region_held3 (fun X => X.cell? ⟨g0, 0, none⟩ = some (.int .i64 o.N) ∧ X.cell? ⟨g0, 1, none⟩ = some (.slice ao o.arcs.length ca) ∧ X.cell? ⟨g0, 2, none⟩ = some (.slice bo o.near.length cb) ∧ X.cell? ⟨g1, 0, none⟩ = some (.int .i64 p.N) ∧ X.cell? ⟨g1, 1, none⟩ = some (.slice ap p.arcs.length da) ∧ X.cell? ⟨g1, 2, none⟩ = some (.slice bp p.near.length db) ∧ g0 < X.heap.size ∧ g1 < X.heap.size)
          (first | exact ⟨q0, q1, q2, r0, r1, r2, qb, rb⟩ | exact ⟨z0, z1, z2, y0, y1, y2, zb, yb⟩ | exact ⟨Z0, Z1, Z2, Y0, Y1, Y2, Zb, Yb⟩ | exact ⟨cell_set3 Z0 n0, cell_set3 Z1 n0, cell_set3 Z2 n0, cell_set3 Y0 n1, cell_set3 Y1 n1, cell_set3 Y2 n1, size_set3 Zb, size_set3 Yb⟩)
          (first
            | (have hk7' := hk7; go_at_call 135; refine (HJ2.out _ (HKR.out.trans ((Kept.refl _).drew.trans hk7))).mono ?_; rintro e w8 ⟨vb, n, rfl, hvb, hn, hk8⟩; obtain ⟨ya, yc, hya, -, -⟩ := hvb.prs; subst hya; have Z0 := hk8.cell z0; have Z1 := hk8.cell z1; have Z2 := hk8.cell z2; have Y0 := hk8.cell y0; have Y1 := hk8.cell y1; have Y2 := hk8.cell y2; have hbx := (HB2.out.kept HKR.out).kept (((Kept.refl _).drew.trans hk7).trans hk8); obtain ⟨X0, X1, X2, Vf⟩ := hbx; have V0 := Vf 0; have V1 := Vf 1; have V2 := Vf 2; have Zb := lt_of_cell Z0; have Yb := lt_of_cell Y0; have Xb := lt_of_cell X0; clear Vf)
            | (go_at_call 135; refine (HJ1.out _ (HKR.out.trans (Kept.refl _).drew)).mono ?_; rintro e w7 ⟨va, m, rfl, hva, hm, hk7⟩; obtain ⟨xa, xc, hxa, -, -⟩ := hva.prs; subst hxa; have z0 := ((Kept.refl _).drew.trans hk7).cell q0; have z1 := ((Kept.refl _).drew.trans hk7).cell q1; have z2 := ((Kept.refl _).drew.trans hk7).cell q2; have y0 := ((Kept.refl _).drew.trans hk7).cell r0; have y1 := ((Kept.refl _).drew.trans hk7).cell r1; have y2 := ((Kept.refl _).drew.trans hk7).cell r2; have zb := lt_of_cell z0; have yb := lt_of_cell y0))
        rename_i hHeld
        clear hHeld
        have hk2 := (HKR.out.trans (Kept.refl _).drew).trans hk7
        have HKQ := Lib.hid (HK3.out.trans (hk2.trans hk8))
        have HPX := Lib.hid ((HB2.out.kept (hk2.trans hk8)).set o.N (.slice xa m.length xc) (.slice ya n.length yc))
        have hs1 : g2 < wr.drew.heap.size := Nat.lt_of_lt_of_le HG3.out HKR.out.size
        have hs2 : g2 < w7.heap.size := Nat.lt_of_lt_of_le hs1 hk7.size
        have hs3 : w.heap.size ≤ wr.drew.heap.size := Nat.le_trans HK3.out.size HKR.out.size
        have HS1 := Lib.hid hs1
        have HS2 := Lib.hid hs2
        have HS3 := Lib.hid hs3
        have HS4 := Lib.hid (Nat.le_trans hs3 hk7.size)
        have HVA := Lib.hid (hva.kept hk8)
        have HVB := Lib.hid hvb
        have HM := Lib.hid hm
        have HN := Lib.hid hn
        clear hk2 hs1 hs2 hs3 hva hvb hm hn hk7 hk8 z0 z1 z2 y0 y1 y2 zb yb Z0 Z1 Z2 Y0 Y1 Y2 Zb Yb X0 X1 X2 V0 V1 V2 Xb
        go_wp2
        refine bodyPost_ret (results_cell_tmp rfl _ _ ⟨g2, 0, none⟩ rfl _ (load24 HPX.out.c0 HPX.out.c1 HPX.out.c2)) rfl ?_
        have em := union_uni (risB_pw.1 (chk_parts HC1.out)) HM.out
        have en := union_uni (risB_pw.1 (chk_near_ris HC1.out)) HN.out
        have hres : R = (⟨o.N, m, n⟩, 0) := by
          rw [← HR.out, em, en]
          unfold JoinR
          rw [if_neg (by rw [HC1.out]; simp), if_neg (by rw [HC2.out]; simp), if_neg (by rw [HX.out]; simp)]
        rw [hres]
        refine ⟨xa, xc, ya, yc, rfl, ?_, ?_, (((HKQ.out.setCell (p := ⟨g2, 0, none⟩) HG2.out _).setCell (p := ⟨g2, 1, none⟩) HG2.out _).setCell (p := ⟨g2, 2, none⟩) HG2.out _)⟩
        · refine OwnG.base' (((HVA.out.setBelow (a := ⟨g2, 0, none⟩) ?_ _).setBelow (a := ⟨g2, 1, none⟩) ?_ _).setBelow (a := ⟨g2, 2, none⟩) ?_ _) HS3.out
          all_goals exact HS1.out
        · refine OwnG.base' (((HVB.out.setBelow (a := ⟨g2, 0, none⟩) ?_ _).setBelow (a := ⟨g2, 1, none⟩) ?_ _).setBelow (a := ⟨g2, 2, none⟩) ?_ _) HS4.out
          all_goals exact HS2.out
      · have b1 : (o.N != p.N) = true := by simp [hN]
        have HX := Lib.hid hN
        clear hN
        obtain ⟨p0, p1, p2, pf⟩ := HB2.out.kept HKR.out
        have f0 := pf 0
        have f1 := pf 1
        have f2 := pf 2
        have pb := lt_of_cell p0
        clear pf
        have HP9 := Lib.hid ((HB2.out.kept HKR.out).set 0 (.slice none 0 0) (.slice none 0 0))
        go_wp2
        refine bodyPost_ret (results_cell_tmp rfl _ _ ⟨g2, 0, none⟩ rfl _ (load24 HP9.out.c0 HP9.out.c1 HP9.out.c2)) rfl ?_
        have hres : R = (⟨0, [], []⟩, 1) := by
          rw [← HR.out]
          unfold JoinR
          rw [if_neg (by rw [HC1.out]; simp), if_neg (by rw [HC2.out]; simp), if_pos HX.out]
        rw [hres]
        exact ⟨none, 0, none, 0, rfl, OwnG.nil _ _ _ _ _, OwnG.nil _ _ _ _ _, (((HK3.out.trans HKR.out).setCell (p := ⟨g2, 0, none⟩) HG2.out _).setCell (p := ⟨g2, 1, none⟩) HG2.out _).setCell (p := ⟨g2, 2, none⟩) HG2.out _⟩
end Go.Proofs.Yteljjkghjbofnaa
