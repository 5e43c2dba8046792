/- slices.Compact and slices.Clip at points. -/
import Derived.Test.YtlglfcdobbocnaaGreatXs
import Derived.Test.YtlglfcdobbocnaaGreatWn
import Derived.Lib.AppendZerosOnto
import Derived.Lib.SlicesCompact
set_option maxRecDepth 100000
namespace Go.Proofs.YtlglfcdobbocnaaGreat
open Go Go.Proofs Go.RowKit
attribute [local go_sem] Oper.semAt_some
theorem raw_setCells (g e : Nat) : ∀ (zs : List Value) (o : Nat) (X : World) (cur : Array Value), X.heap[g]? = some (.cells cur e (0, 0)) →
    ∃ cur', (X.setCells g o zs).heap[g]? = some (.cells cur' e (0, 0)) ∧ cur'.size = cur.size ∧ (∀ j, j < o → cur'[j]? = cur[j]?) ∧ X.grownBy (X.setCells g o zs) (some g)
  | [], o, X, cur, h => ⟨cur, h, rfl, fun _ _ => rfl, ⟨rfl, rfl, rfl, Nat.le_refl _, fun _ _ _ => rfl⟩⟩
  | z :: zs, o, X, cur, h => by
    obtain ⟨cur', h1, h2, h3, h4⟩ := raw_setCells g e zs (o + 1) (X.setCell ⟨g, o, none⟩ z) _ (heap_setCell_same X g o cur e z h)
    refine ⟨cur', h1, by simpa using h2, fun j hj => ?_, ?_⟩
    · rw [h3 j (by omega), Array.getElem?_setIfInBounds, if_neg (by omega)]
    · refine World.grownBy.trans (b := X.setCell ⟨g, o, none⟩ z) ⟨rfl, rfl, rfl, by simp, fun k hk hne => heap_setCell_other X ⟨g, o, none⟩ k z (fun e => hne (by rw [e]))⟩ h4
theorem OwnG.cells2 {X : World} {base g c n : Nat} {d : Array (Int × Int)} (h : OwnG X base 25 2 pairC (.slice (some ⟨g, 0, none⟩) n c) d.toList) {k : Nat} (hk : k < d.size) {x : Int × Int} (hx : d[k]! = x) :
    X.cell? ⟨g, k * 2, none⟩ = some (.int .i64 x.1) ∧ X.cell? ⟨g, k * 2 + 1, none⟩ = some (.int .i64 x.2) := by
  obtain ⟨cur, rfl, hb, hh, hn, hm, hs, ht⟩ := h.parts
  have hkl : k < d.toList.length := by simpa using hk
  have hx' : d.toList[k] = x := by rw [← hx, getElem!_pos d k hk]; simp
  have key : ∀ j, j < 2 → X.cell? ⟨g, k * 2 + j, none⟩ = (pairC x)[j]? := fun j hj => by
    have h1 := flatMap_get pairC_len d.toList k j hkl hj
    rw [hx', ← ht, List.getElem?_take_of_lt (by omega)] at h1
    rw [← h1]
    simp [World.cell?, hh]
  exact ⟨key 0 (by omega), key 1 (by omega)⟩
theorem OwnG.set2 {X : World} {base g c n : Nat} {d : Array (Int × Int)} (h : OwnG X base 25 2 pairC (.slice (some ⟨g, 0, none⟩) n c) d.toList) {k : Nat} (hk : k < d.size) (x : Int × Int) :
    OwnG ((X.setCell ⟨g, k * 2, none⟩ (.int .i64 x.1)).setCell ⟨g, k * 2 + 1, none⟩ (.int .i64 x.2)) base 25 2 pairC (.slice (some ⟨g, 0, none⟩) n c) (d.setIfInBounds k x).toList := by
  obtain ⟨cur, rfl, hb, hh, hn, hm, hs, ht⟩ := h.parts
  refine OwnG.of_parts pairC_len (by simp) hb (heap_setCell_same _ g _ _ 25 _ (heap_setCell_same X g _ cur 25 _ hh)) hn hm (by simpa using hs) ?_
  rw [Array.toList_setIfInBounds, Array.toList_setIfInBounds, Array.toList_setIfInBounds, flat_set _ _ _ (by simpa using hk), ← ht, List.take_set, List.take_set]
theorem set2_grown (X : World) (g i : Nat) (u v : Value) : X.grownBy ((X.setCell ⟨g, i, none⟩ u).setCell ⟨g, i + 1, none⟩ v) (some g) :=
  ⟨rfl, rfl, rfl, by simp, fun k hk hne => by rw [heap_setCell_other _ _ k v (fun e => hne (by rw [e])), heap_setCell_other _ _ k u (fun e => hne (by rw [e]))]⟩
theorem OwnG.done {X : World} {base g c n k : Nat} {l m : List (Int × Int)} (h : OwnG X base 25 2 pairC (.slice (some ⟨g, 0, none⟩) n c) l) (hk : m.length = k) (hkn : k ≤ n) (hm : ∀ j, j < k → m[j]? = l[j]?) (zs : List Value) :
    OwnG (X.setCells g (k * 2) zs) base 25 2 pairC (.slice (some ⟨g, 0, none⟩) k c) m ∧ X.grownBy (X.setCells g (k * 2) zs) (some g) := by
  obtain ⟨cur, hnl, hb, hh, hn, hmx, hs, ht⟩ := h.parts
  obtain ⟨cur', h1, h2, h3, h4⟩ := raw_setCells g 25 zs (k * 2) X cur hh
  refine ⟨OwnG.of_parts pairC_len hk.symm hb h1 (Nat.le_trans hkn hn) hmx (by rw [h2, hs]) ?_, h4⟩
  have hml : m = l.take k := by
    apply List.ext_getElem?
    intro j
    by_cases hj : j < k
    · rw [hm j hj, List.getElem?_take_of_lt hj]
    · rw [List.getElem?_eq_none (by omega), List.getElem?_take_eq_none (by omega)]
  have hfl : ∀ (l : List (Int × Int)) k, (l.take k).flatMap pairC = (l.flatMap pairC).take (k * 2) := by
    intro l
    induction l with
    | nil => simp
    | cons y t ih =>
      intro k
      cases k with
      | zero => simp
      | succ k => rw [show (k + 1) * 2 = k * 2 + 1 + 1 by omega]; simp [pairC, ih]
  rw [hml, hfl, ← ht, List.take_take, Nat.min_eq_left (by omega)]
  apply List.ext_getElem?
  intro j
  by_cases hj : j < k * 2
  · rw [List.getElem?_take_of_lt hj, List.getElem?_take_of_lt hj]
    have := h3 j hj
    simpa using this
  · rw [List.getElem?_take_eq_none (by omega), List.getElem?_take_eq_none (by omega)]
theorem zeroV25 (w : World) : (zeroValue 25).run Tryz.prog w = .ok (.agg #[.int .i64 0, .int .i64 0]) w := by kernel_rfl
theorem zero_pairs (n : Nat) : ∀ v ∈ (Builtin.zeroCells #[Value.int .i64 0, Value.int .i64 0] n).toList, v.oneCell' = true := fun v hv => by
  simp [Builtin.zeroCells] at hv
  obtain ⟨i, hi, rfl⟩ := hv
  rcases Nat.mod_two_eq_zero_or_one i with h | h <;> rw [h] <;> rfl
theorem run_clear25 {X : World} {base g c n k : Nat} {l : List (Int × Int)} (h : OwnG X base 25 2 pairC (.slice (some ⟨g, 0, none⟩) n c) l) (hk : k < n) (cc : Nat) (ty : TypeId) :
    (Builtin.clear_ #[22] ty #[.slice (some ⟨g, k * 2, none⟩) (n - k) cc]).run Tryz.prog X = .ok (.tuple #[]) (X.setCells g (k * 2) (Builtin.zeroCells #[Value.int .i64 0, Value.int .i64 0] (n - k)).toList) := by
  obtain ⟨cur, hnl, hb, hh, hn, hmx, hs, ht⟩ := h.parts
  have hlen : (Builtin.zeroCells #[Value.int .i64 0, Value.int .i64 0] (n - k)).toList.length = (n - k) * 2 := by simp [Builtin.zeroCells]
  have hst := run_storeCells_cells (P := Tryz.prog) g (k * 2) (Builtin.zeroCells #[Value.int .i64 0, Value.int .i64 0] (n - k)).toList 0 X (by
    intro j hj
    rw [hlen] at hj
    simp [World.cell?, hh]
    omega) (by intro j hj; simp [World.frozen?, hh]) (zero_pairs _)
  simp only [Nat.add_zero] at hst
  obtain ⟨m, hm⟩ : ∃ m, n - k = m + 1 := ⟨n - k - 1, by omega⟩
  rw [hm] at hst ⊢
  have hz : (Value.agg #[Value.int .i64 0, Value.int .i64 0]).cells = #[Value.int .i64 0, Value.int .i64 0] := by kernel_rfl
  simp [Builtin.clear_, run_underlying Tryz.underlying22, hz, hst]

open Go.Lib in
set_option maxHeartbeats 2000000 in
theorem Compact_any (base g c : Nat) (d : Array (Int × Int)) (w : World) (h : OwnG w base 25 2 pairC (.slice (some ⟨g, 0, none⟩) d.size c) d.toList) (hl : d.size < 100000) :
    Calls Tryz.prog 49 #[.slice (some ⟨g, 0, none⟩) d.size c] w (fun e w' => ∃ v, e = .returned v ∧ OwnG w' base 25 2 pairC v (compactUpTo d d.size) ∧ w.grownBy w' (some g)) := by
  have HO := Lib.hid h
  have hcap : d.size ≤ c := by
    rcases h.2 with ⟨h0, _⟩ | ⟨g', cap, cur, hv, hbase, hb, hn, hcm, hsz, htk⟩
    · cases h0
    · simp only [Value.slice.injEq] at hv
      obtain ⟨_, _, rfl⟩ := hv
      simpa using hn
  clear h
  by_cases h2 : d.size < 2
  · go_enter Tryz.func49, Tryz.ntmps49
    go_wp2
    go_ret
    refine ⟨_, rfl, ?_, ⟨rfl, rfl, rfl, Nat.le_refl _, fun _ _ _ => rfl⟩⟩
    rw [show compactUpTo d d.size = d.toList from by
      rw [compactUpTo_all d d.size (fun j hj => keeps_lt_one d j (by omega)), range_map_get]]
    exact HO.out
  · go_enter Tryz.func49, Tryz.ntmps49
    go_wp2
    go_loopg [3] d.size (fun gk s3 wr => ∃ k : Nat, 1 ≤ k ∧ k ≤ d.size ∧ d.size - k ≤ gk ∧ s3 = .int .i64 k ∧ Kept w wr ∧ w.grownBy wr (some g) ∧ ∀ j, j < k → keeps d j = true)
    case atStart => exact ⟨1, Nat.le_refl _, by omega, by omega, rfl, Kept.refl _, ⟨rfl, rfl, rfl, Nat.le_refl _, fun _ _ _ => rfl⟩, keeps_lt_one d⟩
    case round =>
      obtain ⟨k, hk1, hk, hg, rfl, hkr, hgb, hall⟩ := hrel
      have HKR := Lib.hid hkr
      have HGB := Lib.hid hgb
      have A := Lib.hid hall
      clear hkr hgb hall
      by_cases hlt : k < d.size
      · have ho := HO.out.kept HKR.out
        obtain ⟨c0, c1⟩ := ho.cells2 hlt rfl
        obtain ⟨e0, e1⟩ := ho.cells2 (show k - 1 < d.size by omega) rfl
        have hgz := lt_of_cell c0
        have HO2 := Lib.hid ho
        clear ho
        generalize hx : d[k]! = x at c0 c1
        generalize hy : d[k - 1]! = y at e0 e1
        have B := Lib.hid (And.intro hx hy)
        clear hx hy
        have i1 : (0 : Int) ≤ (k : Int) - 1 := by omega
        have i2 : (k : Int) - 1 < (d.size : Int) := by omega
        have i3 : ((k : Int) - 1).toNat = k - 1 := by omega
        have i4 : wrap64 ((k : Int) - 1) = (k : Int) - 1 := IntWalk.wrap64_in _ (by omega)
        have i6 : (k : Int) < (d.size : Int) := by omega
        by_cases hdup : x = y
        · subst hdup
          have b1 : (x.1 == x.1) = true := by simp
          have b2 : (x.2 == x.2) = true := by simp
          go_wp2_with fail
          go_region
          clear c0 c1 e0 e1
          go_wp2
          go_loopg [3, 5] d.size (fun g2 s3 s5 wx => ∃ (kk k2 : Nat) (dk : Array (Int × Int)), s3 = .int .i64 kk ∧ s5 = .int .i64 k2 ∧ 1 ≤ k2 ∧ k + k2 ≤ d.size ∧ d.size - (k + k2) ≤ g2 ∧ OwnG wx base 25 2 pairC (.slice (some ⟨g, 0, none⟩) d.size c) dk.toList ∧ w.grownBy wx (some g) ∧ CompInv d (k + k2) kk dk)
          case atStart => exact ⟨k, 1, d, rfl, rfl, Nat.le_refl _, by omega, by omega, HO2.out.kept ((Kept.refl _).drew), HGB.out.trans ⟨rfl, rfl, rfl, Nat.le_refl _, fun _ _ _ => rfl⟩, CompInv.start A.out (keeps_neg (by omega) (by rw [B.out.1, B.out.2]))⟩
          case round =>
            obtain ⟨kk, k2, dk, rfl, rfl, h1, hle, hg2, ho, hgb, hI⟩ := hrel
            have hkk := hI.lt
            have hds := hI.size
            have I2 := Lib.hid hI
            have HG2 := Lib.hid hgb
            have HO3 := Lib.hid ho
            by_cases hlt2 : k + k2 < d.size
            · obtain ⟨c0, c1⟩ := ho.cells2 (show k + k2 < dk.size by omega) rfl
              obtain ⟨e0, e1⟩ := ho.cells2 (show k + k2 - 1 < dk.size by omega) rfl
              obtain ⟨f0, f1⟩ := ho.cells2 (show kk < dk.size by omega) rfl
              rw [hI.high (k + k2) (by omega), show (k + k2) * 2 = k * 2 + k2 * 2 by omega] at c0 c1
              rw [hI.high (k + k2 - 1) (by omega), show (k + k2 - 1) * 2 = k * 2 + (k2 - 1) * 2 by omega] at e0 e1
              have hgz2 := lt_of_cell c0
              have w0 := ho.warm (kk * 2)
              have w1 := ho.warm (kk * 2 + 1)
              clear hI ho hgb
              generalize hx : d[k + k2]! = u at c0 c1
              generalize hy : d[k + k2 - 1]! = v at e0 e1
              generalize dk[kk]! = old at f0 f1
              have C := Lib.hid (And.intro hx hy)
              clear hx hy
              have i1 : (0 : Int) ≤ (k2 : Int) - 1 := by omega
              have i2 : (k2 : Int) - 1 < ((d.size - k : Nat) : Int) := by omega
              have i3 : ((k2 : Int) - 1).toNat = k2 - 1 := by omega
              have i4 : wrap64 ((k2 : Int) - 1) = (k2 : Int) - 1 := IntWalk.wrap64_in _ (by omega)
              have i6 : (k2 : Int) < ((d.size - k : Nat) : Int) := by omega
              by_cases huv : u = v
              · subst huv
                have b1 : (u.1 == u.1) = true := by simp
                have b2 : (u.2 == u.2) = true := by simp
                go_wp2_with fail
                go_region
                go_wp2
                go_roundg (d.size - (k + (k2 + 1)))
                case measure => omega
                case rel => exact ⟨kk, k2 + 1, dk, rfl, by go_num, by omega, by omega, Nat.le_refl _, HO3.out.kept ((Kept.refl _).drew), HG2.out.trans ⟨rfl, rfl, rfl, Nat.le_refl _, fun _ _ _ => rfl⟩, I2.out.skip (keeps_neg (by omega) (by rw [C.out.1, C.out.2]))⟩
              · rcases (show u.1 ≠ v.1 ∨ (u.1 = v.1 ∧ u.2 ≠ v.2) from by
                  by_cases e1 : u.1 = v.1
                  · exact .inr ⟨e1, fun e2 => huv (Prod.ext e1 e2)⟩
                  · exact .inl e1) with hn | ⟨he, hn⟩
                · have b1 : (u.1 == v.1) = false := by simpa using hn
                  have b3 : decide (u.1 = v.1) = false := by simpa using hn
                  go_wp2_with fail
                  go_region
                  go_wp2
                  go_roundg (d.size - (k + (k2 + 1)))
                  case measure => omega
                  case rel =>
                    have hs := HO3.out.set2 (k := kk) (show kk < dk.size by omega) u
                    have hgx := set2_grown wr g (kk * 2) (.int .i64 u.1) (.int .i64 u.2)
                    have hI := I2.out.keep hlt2 (keeps_pos (by rw [C.out.1, C.out.2]; exact huv))
                    rw [C.out.1] at hI
                    exact ⟨kk + 1, k2 + 1, dk.setIfInBounds kk u, by go_num, by go_num, by omega, by omega, Nat.le_refl _, hs.kept ((Kept.refl _).drew), HG2.out.trans (hgx.trans ⟨rfl, rfl, rfl, Nat.le_refl _, fun _ _ _ => rfl⟩), hI⟩
                · have b1 : (u.1 == v.1) = true := by simpa using he
                  have b3 : decide (u.1 = v.1) = true := by simpa using he
                  have b2 : (u.2 == v.2) = false := by simpa using hn
                  have b4 : decide (u.2 = v.2) = false := by simpa using hn
                  go_wp2_with fail
                  go_region
                  go_wp2
                  go_roundg (d.size - (k + (k2 + 1)))
                  case measure => omega
                  case rel =>
                    have hs := HO3.out.set2 (k := kk) (show kk < dk.size by omega) u
                    have hgx := set2_grown wr g (kk * 2) (.int .i64 u.1) (.int .i64 u.2)
                    rw [he] at hs hgx
                    have hI := I2.out.keep hlt2 (keeps_pos (by rw [C.out.1, C.out.2]; exact huv))
                    rw [C.out.1] at hI
                    exact ⟨kk + 1, k2 + 1, dk.setIfInBounds kk u, by go_num, by go_num, by omega, by omega, Nat.le_refl _, hs.kept ((Kept.refl _).drew), HG2.out.trans (hgx.trans ⟨rfl, rfl, rfl, Nat.le_refl _, fun _ _ _ => rfl⟩), hI⟩
            · have hend : k + k2 = d.size := by omega
              have hcl : ∀ ty, (Builtin.clear_ #[22] ty #[.slice (some ⟨g, kk * 2, none⟩) (d.size - kk) (c - kk)]).run Tryz.prog wr = .ok (.tuple #[]) (wr.setCells g (kk * 2) (Builtin.zeroCells #[Value.int .i64 0, Value.int .i64 0] (d.size - kk)).toList) := run_clear25 ho (by omega) _
              clear hI ho hgb
              have hnl : ¬ ((k2 : Int) < ((d.size - k : Nat) : Int)) := by omega
              go_wp2
              go_ret
              have hI := I2.out
              rw [hend] at hI
              obtain ⟨r1, r2⟩ := HO3.out.done (m := compactUpTo d d.size) hI.len (by omega) (fun j hj => by
                rw [hI.low j hj, getElem!_pos dk j (by omega)]
                simp [show j < dk.size by omega]) (Builtin.zeroCells #[Value.int .i64 0, Value.int .i64 0] (d.size - kk)).toList
              exact ⟨_, rfl, r1, HG2.out.trans r2⟩
        · rcases (show x.1 ≠ y.1 ∨ (x.1 = y.1 ∧ x.2 ≠ y.2) from by
            by_cases e1 : x.1 = y.1
            · exact .inr ⟨e1, fun e2 => hdup (Prod.ext e1 e2)⟩
            · exact .inl e1) with hn | ⟨he, hn⟩
          · have b1 : (x.1 == y.1) = false := by simpa using hn
            have b3 : decide (x.1 = y.1) = false := by simpa using hn
            go_wp2_with fail
            go_region
            go_wp2
            go_roundg (d.size - (k + 1))
            case measure => omega
            case rel =>
              refine ⟨k + 1, by omega, by omega, Nat.le_refl _, by go_num, HKR.out.drew, HGB.out.trans ⟨rfl, rfl, rfl, Nat.le_refl _, fun _ _ _ => rfl⟩, fun j hj => ?_⟩
              rcases Nat.lt_or_ge j k with h | h
              · exact A.out j h
              · obtain rfl : j = k := by omega
                exact keeps_pos (by rw [B.out.1, B.out.2]; exact hdup)
          · have b1 : (x.1 == y.1) = true := by simpa using he
            have b3 : decide (x.1 = y.1) = true := by simpa using he
            have b2 : (x.2 == y.2) = false := by simpa using hn
            have b4 : decide (x.2 = y.2) = false := by simpa using hn
            go_wp2_with fail
            go_region
            go_wp2
            go_roundg (d.size - (k + 1))
            case measure => omega
            case rel =>
              refine ⟨k + 1, by omega, by omega, Nat.le_refl _, by go_num, HKR.out.drew, HGB.out.trans ⟨rfl, rfl, rfl, Nat.le_refl _, fun _ _ _ => rfl⟩, fun j hj => ?_⟩
              rcases Nat.lt_or_ge j k with h | h
              · exact A.out j h
              · obtain rfl : j = k := by omega
                exact keeps_pos (by rw [B.out.1, B.out.2]; exact hdup)
      · have hend : k = d.size := by omega
        go_wp2
        go_ret
        refine ⟨_, rfl, ?_, HGB.out⟩
        rw [show compactUpTo d d.size = d.toList from by
          rw [compactUpTo_all d d.size (fun j hj => A.out j (by omega)), range_map_get]]
        exact HO.out.kept HKR.out
set_option maxHeartbeats 1000000 in
theorem comp_nil (w : World) :
    Calls Tryz.prog 49 #[.slice none 0 0] w (fun e w' => e = .returned (.slice none 0 0) ∧ w' = w) := by
  go_enter Tryz.func49, Tryz.ntmps49
  go_wp2
  go_ret
  exact ⟨rfl, rfl⟩

theorem cmpP_tri {x y : Int × Int} (h : ¬ cmpP y x < 0) (hne : y ≠ x) : cmpP x y < 0 := by
  rw [cmpP_lt] at *
  exact (ltP_total hne).resolve_left h
theorem cmpP_trans' {x y z : Int × Int} (h : cmpP x y < 0) (k : cmpP y z < 0) : cmpP x z < 0 := by
  rw [cmpP_lt] at *
  exact ltP_trans h k
open Go.Lib in
theorem compact_sorted {d : Array (Int × Int)} (hs : SortedP d.toList) : ∀ m, m ≤ d.size → (compactUpTo d m).Pairwise (fun a b => cmpP a b < 0) ∧ (∀ x ∈ compactUpTo d m, x = d[m - 1]! ∨ cmpP x d[m - 1]! < 0) ∧ ∀ x, x ∈ compactUpTo d m ↔ ∃ j, j < m ∧ d[j]! = x
  | 0, _ => ⟨by simp [compactUpTo], by simp [compactUpTo], by simp [compactUpTo]⟩
  | m + 1, hm => by
    obtain ⟨h1, h2, h3⟩ := compact_sorted hs m (by omega)
    rw [compactUpTo_succ]
    by_cases hk : keeps d m = true
    · rw [if_pos hk]
      have hlt : ∀ x ∈ compactUpTo d m, cmpP x d[m]! < 0 := by
        intro x hx
        obtain ⟨j, hj, _⟩ := (h3 x).1 hx
        have hne : d[m]! ≠ d[m - 1]! := by
          have := of_decide_eq_true hk
          rcases this with h | h
          · omega
          · exact h
        have hle : ¬ cmpP d[m]! d[m - 1]! < 0 := by
          have := List.pairwise_iff_getElem.1 hs (m - 1) m (by simp; omega) (by simp; omega) (by omega)
          rw [getElem!_pos d m (by omega), getElem!_pos d (m - 1) (by omega)]
          simpa using this
        have h4 := cmpP_tri hle hne
        rcases h2 x hx with rfl | h
        · exact h4
        · exact cmpP_trans' h h4
      refine ⟨List.pairwise_append.2 ⟨h1, by simp, fun x hx y hy => ?_⟩, fun x hx => ?_, fun x => ?_⟩
      · obtain rfl : y = d[m]! := by simpa using hy
        exact hlt x hx
      · rcases List.mem_append.1 hx with h | h
        · exact .inr (hlt x h)
        · exact .inl (by simpa using h)
      · constructor
        · intro hx
          rcases List.mem_append.1 hx with h | h
          · obtain ⟨j, hj, e⟩ := (h3 x).1 h
            exact ⟨j, by omega, e⟩
          · exact ⟨m, by omega, (by simpa using h : x = d[m]!).symm⟩
        · rintro ⟨j, hj, e⟩
          by_cases hjm : j = m
          · subst hjm
            exact List.mem_append.2 (.inr (by simp [e]))
          · exact List.mem_append.2 (.inl ((h3 x).2 ⟨j, by omega, e⟩))
    · rw [if_neg hk, List.append_nil]
      have hm0 : m ≠ 0 ∧ d[m]! = d[m - 1]! := by
        unfold keeps at hk
        simpa using hk
      refine ⟨h1, fun x hx => ?_, fun x => ?_⟩
      · rw [Nat.add_sub_cancel, hm0.2]
        exact h2 x hx
      · rw [h3]
        constructor
        · rintro ⟨j, hj, e⟩
          exact ⟨j, by omega, e⟩
        · rintro ⟨j, hj, e⟩
          by_cases hjm : j = m
          · subst hjm
            exact ⟨j - 1, by omega, by rw [← hm0.2, e]⟩
          · exact ⟨j, by omega, e⟩
open Go.Lib in
theorem Compact_n (base g c n : Nat) (d : Array (Int × Int)) (w : World) (hn : d.size = n) (h : OwnG w base 25 2 pairC (.slice (some ⟨g, 0, none⟩) n c) d.toList) (hl : d.size < 100000) :
    Calls Tryz.prog 49 #[.slice (some ⟨g, 0, none⟩) n c] w (fun e w' => ∃ v, e = .returned v ∧ OwnG w' base 25 2 pairC v (compactUpTo d d.size) ∧ w.grownBy w' (some g)) := by
  subst hn
  exact Compact_any base g c d w h hl
open Go.Lib in
/-- Sorted and made compact: in order, each once. -/
theorem compact_uni {l m : List Pt} (hp : m.Perm l) (hs : Srt (fun x y => cmpP x y < 0) m 0 m.length) : compactUpTo m.toArray m.toArray.size = uniP l := by
  have hs' : SortedP m.toArray.toList := by
    unfold SortedP
    rw [List.pairwise_iff_getElem]
    intro i j hi hj hij
    have := hs i j (Nat.zero_le _) hij (by simpa using hj)
    rw [gt_eq (l := m) (i := i) (by simpa using hi), gt_eq (l := m) (i := j) (by simpa using hj)] at this
    exact this
  obtain ⟨h1, -, h3⟩ := compact_sorted hs' m.toArray.size (Nat.le_refl _)
  refine uniP_uni ?_ fun x => ?_
  · unfold StrictP
    exact h1.imp fun {a b} h => (cmpP_lt a b).1 h
  · rw [h3, ← hp.mem_iff]
    constructor
    · rintro ⟨j, hj, e⟩
      rw [getElem!_pos m.toArray j hj] at e
      rw [← e]
      simp
    · intro hx
      obtain ⟨j, hj, e⟩ := List.getElem_of_mem hx
      exact ⟨j, by simpa using hj, by rw [getElem!_pos m.toArray j (by simpa using hj)]; simpa using e⟩
set_option maxHeartbeats 1000000 in
theorem Clip_any (b off n c : Nat) (w : World) (hn : n ≤ c) : Calls Tryz.prog 50 #[.slice (some ⟨b, off, none⟩) n c] w (fun e w' => e = .returned (.slice (some ⟨b, off, none⟩) n n) ∧ w' = w) := by
  go_enter Tryz.func50, Tryz.ntmps50
  go_wp2
  go_ret
  exact ⟨rfl, rfl⟩
set_option maxHeartbeats 1000000 in
theorem Clip_nil (w : World) : Calls Tryz.prog 50 #[.slice none 0 0] w (fun e w' => e = .returned (.slice none 0 0) ∧ w' = w) := by
  go_enter Tryz.func50, Tryz.ntmps50
  go_wp2
  go_ret
  exact ⟨rfl, rfl⟩
open Go.Lib in
/-- Compact of what is sorted. -/
theorem Compact_srt (v : Value) (l m : List Pt) (base : Nat) (w : World) (h : OwnP w base v m) (hp : m.Perm l) (hs : Srt (fun x y => cmpP x y < 0) m 0 m.length) (hl : m.length < 100000) :
    Calls Tryz.prog 49 #[v] w (fun e w' => ∃ v', e = .returned v' ∧ OwnP w' base v' (uniP l) ∧ w.grownBy w' v.ownBlock) := by
  rcases h.2 with ⟨rfl, h0⟩ | ⟨g, c, cur, rfl, -, -, -, -, -, -⟩
  · obtain rfl : m = [] := List.eq_nil_of_length_eq_zero h0
    refine (comp_nil w).mono ?_
    rintro e w' ⟨rfl, rfl⟩
    refine ⟨_, rfl, ?_, ⟨rfl, rfl, rfl, Nat.le_refl _, fun _ _ _ => rfl⟩⟩
    obtain rfl : l = [] := hp.symm.eq_nil
    exact OwnG.nil _ _ _ _ _
  · have hn := h.n_eq
    have hz : m.toArray.size = m.length := by simp
    rw [← compact_uni hp hs]
    refine (Compact_n base g c m.length m.toArray w hz (by simpa using h) (by simpa using hl)).mono ?_
    rintro e w' ⟨v', rfl, ho, hg⟩
    exact ⟨v', rfl, ho, hg⟩
/-- A slice of these points, in memory of one's own. -/
def PtsOut (w : World) (base : Nat) (v : Value) (l : List Pt) : Prop := ∃ ao c, v = .slice ao l.length c ∧ Pairs w ao l ∧ ∀ x, ao = some x → base ≤ x.block ∧ x.block < w.heap.size
/-- Clip of what is one's own. -/
theorem Clip_own (v : Value) (l : List Pt) (base : Nat) (w : World) (h : OwnP w base v l) : Calls Tryz.prog 50 #[v] w (fun e w' => ∃ v', e = .returned v' ∧ PtsOut w base v' l ∧ w' = w) := by
  obtain ⟨ao, c', hv, hpp⟩ := OwnG.pts h
  rcases h.2 with ⟨rfl, h0⟩ | ⟨g, c, cur, rfl, hb, hh, hn, hc, hsz, ht⟩
  · refine (Clip_nil w).mono ?_
    rintro e w' ⟨rfl, rfl⟩
    obtain rfl : l = [] := List.eq_nil_of_length_eq_zero h0
    exact ⟨_, rfl, ⟨none, 0, rfl, fun i hi => by simp at hi, fun x e => by cases e⟩, rfl⟩
  · refine (Clip_any g 0 l.length c w hn).mono ?_
    rintro e w' ⟨rfl, rfl⟩
    simp only [Value.slice.injEq] at hv
    obtain ⟨rfl, -, -⟩ := hv
    exact ⟨_, rfl, ⟨some ⟨g, 0, none⟩, l.length, rfl, hpp, fun x e => by cases e; exact ⟨hb, (h.lt g rfl).2⟩⟩, rfl⟩
end Go.Proofs.YtlglfcdobbocnaaGreat
