/- matched. -/
import Derived.Test.YteljjkghjbofnaaWv
set_option maxRecDepth 100000
namespace Go.Proofs.Yteljjkghjbofnaa
open Go Go.Proofs Go.RowKit
attribute [local go_sem] Oper.semAt_some

def intsV (l : List Int) : Value := .agg (l.map (Value.int .i64)).toArray
def MatchedPost (W : Web) (some_ : S) (w : World) (e : Ending) (w' : World) : Prop := e = .returned (intsV (matchedL W some_)) ∧ Kept w w'

theorem Arr.range {X : World} {g : Nat} {xs : List Int} (h : Arr X g xs) : X.rangeAt g 0 (xs.map (Value.int .i64)) := by
  intro j v hv
  rw [List.getElem?_map] at hv
  cases hx : xs[j]? with
  | none => rw [hx] at hv; cases hv
  | some x =>
    rw [hx] at hv
    cases hv
    obtain ⟨hj, rfl⟩ := List.getElem?_eq_some_iff.1 hx
    rw [Nat.zero_add]
    exact h.get j hj
theorem Arr.there {X : World} {g : Nat} {xs : List Int} (h : Arr X g xs) : X.there g 0 xs.length := by
  intro j hj
  rw [Nat.zero_add]
  exact ⟨by rw [h.get j hj]; rfl, h.free j⟩
theorem ints_one (xs : List Int) : ((xs.map (Value.int .i64)).toArray).all (·.oneCell') = true := all_oneCell_toArray (fun v hv => by
  obtain ⟨_, _, rfl⟩ := List.mem_map.1 hv
  rfl)
theorem size154 : (Try.prog.info? 154).map (·.size) = some 24 := by kernel_rfl

def repK (k : Nat) : List Int := List.replicate k (-1) ++ List.replicate (24 - k) 0
theorem repK_len {k : Nat} (hk : k ≤ 24) : (repK k).length = 24 := by simp [repK]; omega
theorem repK_set {k : Nat} (hk : k < 24) : (repK k).set k (-1) = repK (k + 1) := by
  unfold repK
  rw [List.set_append_right _ _ (by simp), List.length_replicate, Nat.sub_self, show 24 - k = (24 - (k + 1)) + 1 by omega, List.replicate_succ, List.set_cons_zero, List.replicate_succ' (n := k), List.append_assoc]
  rfl

structure M1 (w : World) (wb b : Nat) (some_ : S) (nx bf : List Int) (X : World) : Prop where
  kept : Kept w X
  sz : X.heap.size = wb + 5
  web : X.cell? ⟨wb, 0, none⟩ = some (.pointer (some ⟨b, 0, none⟩))
  set : X.cell? ⟨wb + 1, 0, none⟩ = some (.int .u32 (sI some_))
  rr : Arr X (wb + 2) (List.replicate 24 0)
  nx : Arr X (wb + 3) nx
  bf : Arr X (wb + 4) bf
theorem M1.setNx {w : World} {wb b : Nat} {some_ : S} {nx bf : List Int} {X : World} (h : M1 w wb b some_ nx bf X) (hw : w.heap.size = wb) (k : Nat) (x : Int) : M1 w wb b some_ (nx.set k x) bf (X.setCell ⟨wb + 3, k, none⟩ (.int .i64 x)) :=
  ⟨h.kept.setCell (p := ⟨wb + 3, k, none⟩) (by simp; omega) _, by simpa [World.setCell] using h.sz, cell_set_block h.web (by omega), cell_set_block h.set (by omega), h.rr.setOther (by omega), h.nx.set x, h.bf.setOther (by omega)⟩
theorem M1.setBf {w : World} {wb b : Nat} {some_ : S} {nx bf : List Int} {X : World} (h : M1 w wb b some_ nx bf X) (hw : w.heap.size = wb) (k : Nat) (x : Int) : M1 w wb b some_ nx (bf.set k x) (X.setCell ⟨wb + 4, k, none⟩ (.int .i64 x)) :=
  ⟨h.kept.setCell (p := ⟨wb + 4, k, none⟩) (by simp; omega) _, by simpa [World.setCell] using h.sz, cell_set_block h.web (by omega), cell_set_block h.set (by omega), h.rr.setOther (by omega), h.nx.setOther (by omega), h.bf.set x⟩

theorem results_cell {P : Program} {fn : Func} {t : Tmp} {ty : TypeId} (h : fn.results = #[.cell t ty]) (tmps : Array Value) (w : World) (a : Addr) (ha : tmps.getD t undef = .pointer (some a)) (v : Value) (hl : (loadVar ty a).run P w = .ok v w) :
    (results fn tmps).run P w = .ok v w := by
  rw [Array.getD_eq_getD_getElem?] at ha
  simp [results, h, asAddr, ha, hl]

set_option maxHeartbeats 1600000 in
theorem matched_any (b : Nat) (W : Web) (some_ : S) (w : World) (hw : WebAt w b W) (hn : W.n ≤ 24) : Calls Try.prog 149 #[.pointer (some ⟨b, 0, none⟩), .int .u32 (sI some_)] w (MatchedPost W some_ w) := by
  have HW := Lib.hid hw
  clear hw
  have hsf := fun (a : Addr) (c : Array Value) (w : World) => run_store Try.prog w a (.func (.func 155) #[] c) .plain rfl
  go_enter Try.func149, Try.ntmps149
  go_wp2
  obtain ⟨wb, hwb⟩ : ∃ wb, w.heap.size = wb := ⟨_, rfl⟩
  rw [hwb]
  obtain ⟨w2, e2, hk2, hz2, hc2, hd2⟩ : ∃ w2, (w.alloc (.cells #[.pointer (some ⟨b, 0, none⟩)] 88)).alloc (.cells #[.int .u32 (sI some_)] 93) = w2 ∧ Kept w w2 ∧ w2.heap.size = wb + 2 ∧ w2.cell? ⟨wb, 0, none⟩ = some (.pointer (some ⟨b, 0, none⟩)) ∧ w2.cell? ⟨wb + 1, 0, none⟩ = some (.int .u32 (sI some_)) :=
    ⟨_, rfl, ((Kept.refl w).alloc _).alloc _, by simp [hwb], by simp [← hwb, go_sem], by simp [← hwb, go_sem]⟩
  rw [e2]
  clear e2
  obtain ⟨w3, e3, hk3, hz3, ha3⟩ := alloc_left w2
  rw [e3]
  clear e3
  obtain ⟨w4, e4, hk4, hz4, ha4⟩ := alloc_left w3
  rw [e4]
  clear e4
  obtain ⟨w5, e5, hk5, hz5, ha5⟩ := alloc_left w4
  rw [e5]
  clear e5
  have HWB := Lib.hid hwb
  have HM : Hid (M1 w wb b some_ (repK 0) (repK 0) w5) := by
    rw [hz2] at hz3 ha3
    rw [hz3] at hz4 ha4
    rw [hz4] at hz5 ha5
    exact ⟨((hk2.trans hk3).trans hk4).trans hk5, by omega, (hk3.trans (hk4.trans hk5)).cell hc2, (hk3.trans (hk4.trans hk5)).cell hd2, ha3.kept (hk4.trans hk5), ha4.kept hk5, ha5⟩
  clear hk2 hz2 hc2 hd2 hk3 hz3 ha3 hk4 hz4 ha4 hk5 hz5 ha5 w2 w3 w4 hwb
  go_loopw [11] (fun i wr => ∃ k : Nat, k ≤ 24 ∧ i = .int .i64 k ∧ M1 w wb b some_ (repK k) (repK k) wr) (fun i _ => 24 - (intOf i).toNat)
  case atStart => exact ⟨0, by omega, rfl, HM.out⟩
  case round =>
    clear HM
    obtain ⟨k, hk, rfl, hm⟩ := hrel
    have HM := Lib.hid hm
    clear hm
    by_cases hlt : k < 24
    · have hki : (k : Int) < 24 := by omega
      obtain ⟨x1, hx1⟩ : ∃ x, wr.cell? ⟨wb + 3, k, none⟩ = some (.int .i64 x) := ⟨_, HM.out.nx.get k (by rw [repK_len hk]; exact hlt)⟩
      obtain ⟨x2, hx2⟩ : ∃ x, wr.cell? ⟨wb + 4, k, none⟩ = some (.int .i64 x) := ⟨_, HM.out.bf.get k (by rw [repK_len hk]; exact hlt)⟩
      have f1 := HM.out.nx.free k
      have f2 := HM.out.bf.free k
      have hx3 : (wr.setCell ⟨wb + 3, k, none⟩ (.int .i64 (-1))).cell? ⟨wb + 4, k, none⟩ = some (.int .i64 x2) := cell_set_block hx2 (by omega)
      have l1 := lt_of_cell hx1
      have l2 := lt_of_cell hx2
      go_wp2
      go_roundw
      case rel =>
        refine ⟨k + 1, by omega, by go_num, ?_⟩
        rw [← repK_set hlt]
        exact (HM.out.setNx HWB.out k (-1)).setBf HWB.out k (-1)
      case measure => simp [intOf]; omega
    · have ek : k = 24 := by omega
      subst ek
      have HSZ := HM.out.sz
      have hcN : (wr.alloc (.cells #[.nilFunc] 165)).cell? ⟨wb + 5, 0, none⟩ = some .nilFunc := by rw [← HSZ]; simp [go_sem]
      have hfN : (wr.alloc (.cells #[.nilFunc] 165)).frozen? ⟨wb + 5, 0, none⟩ = false := by rw [← HSZ]; simp [go_sem]
      have hwc := HM.out.web
      have hnn := (HW.out.kept HM.out.kept).n
      have lw := lt_of_cell hwc
      have lb := lt_of_cell hnn
      have hbne : b ≠ wb + 5 := by omega
      have hbne2 : b < wb + 5 := by omega
      go_wp2_with fail
      have hk0 : (repK 24) = List.replicate 24 (-1) := by simp [repK]
      have HKR : Hid (Kept wr (wr.alloc (.cells #[findV wb (wb + 1) (wb + 4) (wb + 5) (wb + 3)] 165))) := (Kept.refl wr).alloc _
      have hfc : (wr.alloc (.cells #[findV wb (wb + 1) (wb + 4) (wb + 5) (wb + 3)] 165)).cell? ⟨wb + 5, 0, none⟩ = some (findV wb (wb + 1) (wb + 4) (wb + 5) (wb + 3)) := by rw [← HSZ]; simp [go_sem]
      have hsz6 : (wr.alloc (.cells #[findV wb (wb + 1) (wb + 4) (wb + 5) (wb + 3)] 165)).heap.size = wb + 6 := by simp [HSZ]
      have hst0 : Hid (FB wb (wb + 1) (wb + 4) (wb + 5) (wb + 3) b W some_ (matchSt W some_ 0).next (matchSt W some_ 0).before (wr.alloc (.cells #[findV wb (wb + 1) (wb + 4) (wb + 5) (wb + 3)] 165))) := by
        have h1 := HM.out.nx
        have h2 := HM.out.bf
        rw [hk0] at h1 h2
        exact ⟨HKR.out.cell HM.out.web, HKR.out.cell HM.out.set, hfc, (HW.out.kept HM.out.kept).kept HKR.out, h1.kept HKR.out, h2.kept HKR.out⟩
      have hrr : Hid (Arr (wr.alloc (.cells #[findV wb (wb + 1) (wb + 4) (wb + 5) (wb + 3)] 165)) (wb + 2) (List.replicate 24 0)) := HM.out.rr.kept HKR.out
      have hkk : Hid (Kept w (wr.alloc (.cells #[findV wb (wb + 1) (wb + 4) (wb + 5) (wb + 3)] 165))) := HM.out.kept.trans HKR.out
      unfold findV at hst0 hrr hkk hsz6
      generalize (wr.alloc (.cells #[Value.func (.func 155) #[] #[.pointer (some ⟨wb, 0, none⟩), .pointer (some ⟨wb + 1, 0, none⟩), .pointer (some ⟨wb + 4, 0, none⟩), .pointer (some ⟨wb + 5, 0, none⟩), .pointer (some ⟨wb + 3, 0, none⟩)]] 165)) = w6 at *
      clear hcN hfN hwc hnn lw lb hbne hbne2 hk0 HKR hfc HSZ hlt hk hsf HM
      go_loopw [24] (fun i wr => ∃ p : Nat, p ≤ W.n ∧ i = .int .i64 p ∧ FB wb (wb + 1) (wb + 4) (wb + 5) (wb + 3) b W some_ (matchSt W some_ p).next (matchSt W some_ p).before wr ∧ Arr wr (wb + 2) (List.replicate 24 0) ∧ Kept w wr ∧ wb + 6 ≤ wr.heap.size) (fun i _ => W.n - (intOf i).toNat)
      case atStart => exact ⟨0, Nat.zero_le _, rfl, hst0.out, hrr.out, hkk.out, by omega⟩
      case round =>
        clear hst0 hrr hkk hsz6
        obtain ⟨p, hp, rfl, hfb, har, hkw, hsz⟩ := hrel
        have HFB := Lib.hid hfb
        have HAR := Lib.hid har
        have HKW := Lib.hid hkw
        have q1 := hfb.set
        have q2 := hfb.fn
        have l1 := lt_of_cell q1
        have l2 := lt_of_cell q2
        unfold findV at q2
        clear hfb har hkw
        by_cases hlt : p < W.n
        · have hp32 : p < 32 := by omega
          go_wp2_with fail
          refine (has_any some_ p _ hp32).mono ?_
          rintro e w2 ⟨rfl, rfl⟩
          cases h1 : hasS some_ p
          all_goals
            have H1 := Lib.hid h1
            clear h1
          · have e : Hid (matchSt W some_ (p + 1) = matchSt W some_ p) := by show _ = _; rw [matchSt_succ]; unfold matchStep; rw [H1.out]; rfl
            go_wp2
            refine ⟨⟨_, _, _, _, _, _, _, _, _, _, _, _, ⟨p + 1, by omega, by go_num, by rw [e.out]; exact HFB.out, HAR.out, HKW.out, hsz⟩, rfl⟩, ?_⟩
            simp [intOf]
            omega
          · have HE : Hid (matchSt W some_ (p + 1) = (findF W some_ (W.n + 1) p { matchSt W some_ p with seen := 0#32 }).2) := by show _ = _; rw [matchSt_succ]; unfold matchStep; rw [H1.out]; rfl
            go_wp2_with fail
            have hk0 : Kept wr (wr.alloc (.cells #[.int .u32 0] 93)) := (Kept.refl wr).alloc _
            have hse : SeenAt wr.heap.size 0#32 (wr.alloc (.cells #[.int .u32 0] 93)) := ⟨by simp [go_sem, sI_zero], by simp [go_sem]⟩
            have hz0 : (wr.alloc (.cells #[.int .u32 0] 93)).heap.size = wr.heap.size + 1 := by simp
            have hbl : b < wb := by have h1 := lt_of_cell HW.out.n; have h2 := HWB.out; omega
            have hfa : FA (wb + 3) wb (wb + 1) (wb + 4) (wb + 5) (wb + 3) b wr.heap.size := ⟨by omega, by omega, by omega, by omega, by omega, by omega⟩
            have hok : (matchSt W some_ p).Ok W.n := matchSt_ok hn p hp
            generalize (wr.alloc (.cells #[.int .u32 0] 93)) = wx at *
            refine (find_any (wb + 3) wb (wb + 1) (wb + 4) (wb + 5) (wb + 3) b wr.heap.size W some_ hn hfa W.n p { matchSt W some_ p with seen := 0#32 } wx ?_ hlt (hok.seen _) (HFB.out.kept hk0) hse).mono ?_
            · unfold unseen
              refine Nat.le_trans (List.length_filter_le _ _) ?_
              simp
            rintro e w3 ⟨rfl, hfb3, hse3, hbl3⟩
            have HB3 := Lib.hid hfb3
            have HA3 : Hid (Arr w3 (wb + 2) (List.replicate 24 0)) := by
              have h := HAR.out.kept hk0
              exact ⟨Nat.lt_of_lt_of_le h.lt hbl3.size, fun i hi => (Below.cell (p := ⟨wb + 2, i, none⟩) hbl3 (by simp)).trans (h.get i hi), fun o => (Below.frozen (p := ⟨wb + 2, o, none⟩) hbl3 (by simp)).trans (h.free o)⟩
            have HK3 : Hid (Kept w w3) := Below.trans (HKW.out.trans hk0) (Below.mono hbl3 (by have := HWB.out; omega))
            have hsz3 : wb + 6 ≤ w3.heap.size := by have := hbl3.size; omega
            clear hfb3 hse3 hbl3 hse hk0 hfa hok hz0
            go_wp2
            refine ⟨⟨_, _, _, _, _, _, _, _, _, _, _, _, ⟨p + 1, by omega, by go_num, by rw [HE.out]; exact HB3.out, HA3.out, HK3.out, hsz3⟩, rfl⟩, ?_⟩
            simp [intOf]
            omega
        · have ep : p = W.n := by omega
          rw [ep] at HFB
          clear ep
          have hlen : (matchSt W some_ W.n).next.length = 24 := (matchSt_ok hn W.n (Nat.le_refl _)).next.1
          have hz := Arr.there HAR.out
          clear q1 q2 l1 l2
          go_wp2_with (first
            | (refine wpList_load_mid rfl 154 _ rfl (wb + 3) 0 rfl ((matchSt W some_ W.n).next.map (Value.int .i64)) _ HFB.out.nx.range Try.underlying154 rfl (by rw [List.length_map, hlen]; exact size154) ?_)
            | (refine wpList_store_mid rfl 154 _ _ rfl (wb + 2) 0 ((matchSt W some_ W.n).next.map (Value.int .i64)).toArray rfl rfl (by rw [List.size_toArray, List.length_map, hlen]; simpa using hz) (by rw [List.size_toArray, List.length_map, hlen]; exact size154) (ints_one _) ?_))
          refine bodyPost_ret (results_cell rfl _ _ ⟨wb + 2, 0, none⟩ rfl (intsV (matchedL W some_)) (run_loadVar_mid _ _ _ _ _ _ (World.rangeAt_setCells_same wr (wb + 2) 0 _ (by rw [List.length_map, hlen]; simpa using hz)) Try.underlying154 rfl (by rw [List.length_map]; show _ = some (matchSt W some_ W.n).next.length; rw [hlen]; exact size154))) rfl ?_
          exact ⟨rfl, HKW.out.setCells (b := wb + 2) (by have := HWB.out; omega) _ _⟩
end Go.Proofs.Yteljjkghjbofnaa
