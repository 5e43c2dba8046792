/- slices' swapRange, rotate and insertionSort at rows of one's own. -/
import Derived.Test.YtlglfcdobbocnaaGreatWo
set_option maxRecDepth 100000
namespace Go.Proofs.YtlglfcdobbocnaaGreat
open Go Go.Proofs Go.RowKit
attribute [local go_sem] Oper.semAt_some
instance : Inhabited Pt := ⟨(0, 0)⟩
theorem wpStill_skip {P : Program} {ops : Array Oper} {w : World} {Q : Act → Prop} {a : Act} {o : Oper} {rest : List Oper} (hw : Region.wanted o (yielded ops a.tmps) = false) (h : wpStill P ops w Q rest (a.put o.dst undef)) : wpStill P ops w Q (o :: rest) a := by
  unfold wpStill
  rw [if_neg (by rw [hw]; simp)]
  exact h
theorem wpStill_want {P : Program} {ops : Array Oper} {w : World} {Q : Act → Prop} {a : Act} {o : Oper} {rest : List Oper} (hw : Region.wanted o (yielded ops a.tmps) = true) (h : ∀ K : Act → Prop, (∀ a, wpStill P ops w Q rest a → K a) → o.still P a w K) : wpStill P ops w Q (o :: rest) a := by
  unfold wpStill
  rw [if_pos hw]
  exact h _ (fun _ h => h)
/-- A function that compares: what it answers, in every world that has grown from w0, but for the row g. -/
def CmpOk {α : Type} (cb : Nat) (caps : Array Value) (enc : α → Value) (D : α → Prop) (cm : α → α → Int) (w0 : World) (g : Nat) : Prop :=
  (∀ x y W, D x → D y → w0.grownBy W (some g) → Calls Tryz.prog cb (#[enc x, enc y] ++ caps) W (Gives (.int .i64 (cm x y)) W)) ∧ ∀ args W, (callFunc cb args).run Tryz.prog W = .ok (.enter cb args) W
/-- What turning a row in place hands back. -/
def TurnedP (l : List Pt) (g c base n a b : Nat) (ok : List Pt → Prop) (w : World) (e : Ending) (w' : World) : Prop := ∃ l' : List Pt, e = .returned (.tuple #[]) ∧ Ed l a b l' ∧ ok l' ∧ OwnP w' base (.slice (some ⟨g, 0, none⟩) n c) l' ∧ w.grownBy w' (some g)
set_option maxHeartbeats 4000000 in
theorem swapRangeP_any (l : List Pt) (g c base n a b k : Nat) (f : Value) (w : World) (h : OwnP w base (.slice (some ⟨g, 0, none⟩) n c) l) (hd : a + k ≤ b) (hb : b + k ≤ l.length) (hl : l.length < 1099511627776) : Calls Tryz.prog 123 #[.slice (some ⟨g, 0, none⟩) n c, .int .i64 a, .int .i64 b, .int .i64 k, f] w (TurnedP l g c base n a (b + k) (fun l' => ∀ q, gt l' q = srF l a b k q) w) := by
  have H := Lib.hid h
  have hn := h.n_eq
  have HLL := Lib.hid hl
  clear h
  go_enter Tryz.func123, Tryz.ntmps123
  go_wp2
  go_loopw [10] (fun iv wr => ∃ (i : Nat) (cur : List Pt), i ≤ k ∧ iv = .int .i64 i ∧ Ed l a (b + k) cur ∧ (∀ q, gt cur q = srF l a b i q) ∧ OwnP wr base (.slice (some ⟨g, 0, none⟩) n c) cur ∧ w.grownBy wr (some g)) (fun iv _ => k - (intOf iv).toNat)
  case atStart => exact ⟨0, l, Nat.zero_le _, rfl, .refl, fun q => srF_zero _ _ _ _, H.out, grownBy_same _ _⟩
  case round =>
    clear H
    obtain ⟨i, cur, hi, rfl, hed, hf, ho, hg⟩ := hrel
    have HED := Lib.hid hed
    have HF := Lib.hid hf
    have HO := Lib.hid ho
    have HG := Lib.hid hg
    have HCL := Lib.hid hed.len
    clear hed hf ho hg
    by_cases hlt : i < k
    ·
      have h1 : a + i < cur.length := by have := HCL.out; omega
      have h2 : b + i < cur.length := by have := HCL.out; omega
      have hA := atP HO.out h1
      have hB := atP HO.out h2
      have hS := swapP (X := wr) HO.out h1 h2
      obtain ⟨x, hx⟩ : ∃ x, gt cur (a + i) = x := ⟨_, rfl⟩
      obtain ⟨y, hy⟩ : ∃ y, gt cur (b + i) = y := ⟨_, rfl⟩
      rw [hx] at hA hS
      rw [hy] at hB hS
      have HS := Lib.hid hS
      clear hS hx hy
      obtain ⟨ca0, ca1⟩ := hA
      obtain ⟨cb0, cb1⟩ := hB
      have hfz := HO.out.warm
      have fa0 := hfz ((a + i) * 2)
      have fa1 := hfz ((a + i) * 2 + 1)
      have fb0 := hfz ((b + i) * 2)
      have fb1 := hfz ((b + i) * 2 + 1)
      clear hfz
      have hgl := lt_of_cell ca0
      have i1 : (0 : Int) ≤ (a : Int) + i := by omega
      have i2 : (a : Int) + i < n := by omega
      have i3 : (0 : Int) ≤ (b : Int) + i := by omega
      have i4 : (b : Int) + i < n := by omega
      have w1 : IntKind.i64.wrap ((a : Int) + i) = (a : Int) + i := IntWalk.i64_in _ (by have := HLL.out; omega)
      have w2 : IntKind.i64.wrap ((b : Int) + i) = (b : Int) + i := IntWalk.i64_in _ (by have := HLL.out; omega)
      have n1 : ¬ a + i = b + i := by omega
      have n2 : ¬ b + i = a + i := by omega
      have hst : ∀ q, gt (swapAt cur (a + i) (b + i)) q = srF l a b (i + 1) q := srF_step hd hb hlt HCL.out HF.out
      have HST := Lib.hid hst
      clear hst
      go_wp2
      go_region
      all_goals go_wp2
      refine ⟨⟨i + 1, swapAt cur (a + i) (b + i), by omega, by go_num, .step HED.out (by omega) (by omega) (by omega) (by omega) (by rw [← HCL.out]; exact h1) (by rw [← HCL.out]; exact h2), HST.out, HS.out.1, grownBy_drew (HG.out.trans HS.out.2)⟩, by simp [intOf]; omega⟩
    ·
      have hik : i = k := by omega
      subst hik
      go_wp2
      refine bodyPost_ret (results_none rfl _ _ _) rfl ⟨cur, rfl, HED.out, HF.out, HO.out, HG.out⟩
set_option maxHeartbeats 4000000 in
theorem rotateP_any (l : List Pt) (g c base n a m b : Nat) (f : Value) (w : World) (h : OwnP w base (.slice (some ⟨g, 0, none⟩) n c) l) (ham : a < m) (hmb : m < b) (hb : b ≤ l.length) (hl : l.length < 1099511627776) : Calls Tryz.prog 121 #[.slice (some ⟨g, 0, none⟩) n c, .int .i64 a, .int .i64 m, .int .i64 b, f] w (TurnedP l g c base n a b (fun l' => ∀ q, gt l' q = rotF (gt l) a m b q) w) := by
  have H := Lib.hid h
  have HLL := Lib.hid hl
  clear h
  have w1 : IntKind.i64.wrap ((m : Int) - a) = ((m - a : Nat) : Int) := by rw [IntWalk.i64_in _ (by omega)]; omega
  have w2 : IntKind.i64.wrap ((b : Int) - m) = ((b - m : Nat) : Int) := by rw [IntWalk.i64_in _ (by omega)]; omega
  go_enter Tryz.func121, Tryz.ntmps121
  go_wp2
  go_loopw [10, 11] (fun iv jv wr => ∃ (i j : Nat) (cur : List Pt), 0 < i ∧ 0 < j ∧ a + i ≤ m ∧ m + j ≤ b ∧ iv = .int .i64 i ∧ jv = .int .i64 j ∧ Ed l a b cur ∧ (∀ q, rotF (gt cur) (m - i) m (m + j) q = rotF (gt l) a m b q) ∧ OwnP wr base (.slice (some ⟨g, 0, none⟩) n c) cur ∧ w.grownBy wr (some g)) (fun iv jv _ => (intOf iv).toNat + (intOf jv).toNat)
  case atStart => exact ⟨m - a, b - m, l, by omega, by omega, by omega, by omega, rfl, rfl, .refl, fun q => by rw [show m - (m - a) = a by omega, show m + (b - m) = b by omega], H.out, grownBy_same _ _⟩
  case round =>
    clear H w1 w2
    obtain ⟨i, j, cur, hi0, hj0, him, hjb, rfl, rfl, hed, hf, ho, hg⟩ := hrel
    have HED := Lib.hid hed
    have HF := Lib.hid hf
    have HO := Lib.hid ho
    have HG := Lib.hid hg
    have HCL := Lib.hid hed.len
    clear hed hf ho hg
    have w1 : IntKind.i64.wrap ((m : Int) - i) = ((m - i : Nat) : Int) := by rw [IntWalk.i64_in _ (by omega)]; omega
    by_cases hij : i = j
    ·
      subst hij
      go_wp2_with fail
      refine (swapRangeP_any cur g c base n (m - i) m i f _ HO.out (by omega) (by rw [HCL.out]; omega) (by rw [HCL.out]; exact HLL.out)).mono ?_
      rintro e x ⟨l2, rfl, he, hk, ho, hg⟩
      have HE := Lib.hid he
      have HK := Lib.hid hk
      have HO2 := Lib.hid ho
      have HG2 := Lib.hid (HG.out.trans hg)
      clear he hk ho hg
      go_wp2
      refine bodyPost_ret (results_none rfl _ _ _) rfl ⟨l2, rfl, HED.out.trans (HE.out.wide (by omega) (by omega)), fun q => by rw [rot_last (by omega) HK.out q]; exact HF.out q, HO2.out, HG2.out⟩
    · by_cases hlt : j < i
      · have w2 : IntKind.i64.wrap ((i : Int) - j) = ((i - j : Nat) : Int) := by rw [IntWalk.i64_in _ (by omega)]; omega
        have t1 : decide ((j : Int) < i) = true := by simp; omega
        have t2 : ((i : Int) == j) = false := by simp; omega
        go_wp2_with fail
        refine (swapRangeP_any cur g c base n (m - i) m j f _ HO.out (by omega) (by rw [HCL.out]; omega) (by rw [HCL.out]; exact HLL.out)).mono ?_
        rintro e x ⟨l2, rfl, he, hk, ho, hg⟩
        have HE := Lib.hid he
        have HK := Lib.hid hk
        have HO2 := Lib.hid ho
        have HG2 := Lib.hid (HG.out.trans hg)
        clear he hk ho hg
        go_wp2
        refine ⟨⟨i - j, j, l2, by omega, by omega, by omega, by omega, by go_num, rfl, HED.out.trans (HE.out.wide (by omega) (by omega)), fun q => by rw [rot_left (by omega) (by omega) (by omega) HK.out q]; exact HF.out q, HO2.out, HG2.out⟩, by simp [intOf]; omega⟩
      · have w2 : IntKind.i64.wrap ((j : Int) - i) = ((j - i : Nat) : Int) := by rw [IntWalk.i64_in _ (by omega)]; omega
        have w3 : IntKind.i64.wrap ((m : Int) + j) = (m : Int) + j := IntWalk.i64_in _ (by have := HLL.out; omega)
        have w4 : IntKind.i64.wrap ((m : Int) + j - i) = ((m + j - i : Nat) : Int) := by rw [IntWalk.i64_in _ (by have := HLL.out; omega)]; omega
        have t1 : decide ((j : Int) < i) = false := by simp; omega
        have t2 : ((i : Int) == j) = false := by simp; omega
        go_wp2_with fail
        refine (swapRangeP_any cur g c base n (m - i) (m + j - i) i f _ HO.out (by omega) (by rw [HCL.out]; omega) (by rw [HCL.out]; exact HLL.out)).mono ?_
        rintro e x ⟨l2, rfl, he, hk, ho, hg⟩
        have HE := Lib.hid he
        have HK := Lib.hid hk
        have HO2 := Lib.hid ho
        have HG2 := Lib.hid (HG.out.trans hg)
        clear he hk ho hg
        go_wp2
        refine ⟨⟨i, j - i, l2, by omega, by omega, by omega, by omega, rfl, by go_num, HED.out.trans (HE.out.wide (by omega) (by omega)), fun q => by rw [rot_right (by omega) (by omega) (by omega) HK.out q]; exact HF.out q, HO2.out, HG2.out⟩, by simp [intOf]; omega⟩
set_option maxHeartbeats 8000000 in
theorem insertionP_any (l : List Pt) (g c base n a b cb : Nat) (caps : Array Value) (D : Pt → Prop) (cm : Pt → Pt → Int) (w0 w : World) (h : OwnP w base (.slice (some ⟨g, 0, none⟩) n c) l) (hg0 : w0.grownBy w (some g)) (hcm : CmpOk cb caps ptV D cm w0 g) (hL : Lin D fun x y => cm x y < 0) (hD : All D l) (hb : b ≤ l.length) (ha : a ≤ b) (hl : l.length < 1099511627776) : Calls Tryz.prog 96 #[.slice (some ⟨g, 0, none⟩) n c, .int .i64 a, .int .i64 b, .func (.func cb) #[] caps] w (TurnedP l g c base n a b (fun l' => Srt (fun x y => cm x y < 0) l' a b) w) := by
  have H := Lib.hid h
  have HN := Lib.hid h.n_eq
  have HLL := Lib.hid hl
  have HG0 := Lib.hid hg0
  have HC := Lib.hid hcm.1
  have hcall := hcm.2
  have HD := Lib.hid hD
  clear h hg0 hcm hD
  have w1 : IntKind.i64.wrap ((a : Int) + 1) = ((a + 1 : Nat) : Int) := by rw [IntWalk.i64_in _ (by omega)]; omega
  go_enter Tryz.func96, Tryz.ntmps96
  go_wp2
  go_loopw [8] (fun iv wr => ∃ (i : Nat) (cur : List Pt), a + 1 ≤ i ∧ (i ≤ b ∨ i = a + 1) ∧ iv = .int .i64 i ∧ Ed l a b cur ∧ Srt (fun x y => cm x y < 0) cur a i ∧ OwnP wr base (.slice (some ⟨g, 0, none⟩) n c) cur ∧ w.grownBy wr (some g)) (fun iv _ => b - (intOf iv).toNat)
  case atStart => exact ⟨a + 1, l, by omega, by omega, rfl, .refl, .short (by omega), H.out, grownBy_same _ _⟩
  case round =>
    clear H w1
    obtain ⟨i, cur, hi1, hi2, rfl, hed, hf, ho, hg⟩ := hrel
    have HED := Lib.hid hed
    have HF := Lib.hid hf
    have HO := Lib.hid ho
    have HG := Lib.hid hg
    have HCL := Lib.hid hed.len
    clear hed hf ho hg
    by_cases hlt : i < b
    case neg =>
      go_wp2
      refine bodyPost_ret (results_none rfl _ _ _) rfl ⟨cur, rfl, HED.out, HF.out.sub (Nat.le_refl _) (by omega), HO.out, HG.out⟩
    go_wp2
    go_loopw [9] (fun jv wr => ∃ (j : Nat) (cur : List Pt), a ≤ j ∧ j ≤ i ∧ jv = .int .i64 j ∧ Ed l a b cur ∧ But (fun x y => cm x y < 0) cur a i j ∧ OwnP wr base (.slice (some ⟨g, 0, none⟩) n c) cur ∧ w.grownBy wr (some g)) (fun jv _ => (intOf jv).toNat)
    case atStart => exact ⟨i, cur, by omega, by omega, rfl, HED.out, .start HF.out, HO.out, HG.out⟩
    case round =>
      clear HED HF HO HG HCL
      obtain ⟨j, cur, hj1, hj2, rfl, hed, hf, ho, hg⟩ := hrel
      have HED := Lib.hid hed
      have HF := Lib.hid hf
      have HO := Lib.hid ho
      have HG := Lib.hid hg
      have HCL := Lib.hid hed.len
      have HCD := Lib.hid (hed.all HD.out)
      clear hed hf ho hg
      by_cases hj0 : a < j
      case neg =>
        have hd : decide ((a : Int) < j) = false := by simp; omega
        go_wp2
        refine region_tail 14 (by kernel_rfl) (by kernel_rfl) ?_
        simp only [List.take_succ_cons, List.take_zero, List.drop_succ_cons, List.drop_zero]
        iterate 4
          with_reducible refine wpStill_want ?_ (fun K hK => ?_)
          · rfl
          go_simp
          refine hK _ ?_
          clear hK K
        iterate 10
          with_reducible refine wpStill_skip ?_ ?_
          · rfl
          simp only [Act.put, List.setIfInBounds_toArray, List.set_cons_zero, List.set_cons_succ]
        refine wpStill_nil ?_
        go_wp2
        go_roundw
        case measure => simp [intOf]; omega
        case rel => exact ⟨i + 1, cur, by omega, by omega, by go_num, HED.out, HF.out.done hL HCD.out hj1 hj2 (by rw [HCL.out]; omega) (.inl (by omega)), HO.out, grownBy_drew HG.out⟩
      have hd : decide ((a : Int) < j) = true := by simp; omega
      obtain ⟨k, hk⟩ : ∃ k, j - 1 = k := ⟨_, rfl⟩
      have wk : IntKind.i64.wrap ((j : Int) - 1) = (k : Int) := by rw [IntWalk.i64_in _ (by omega)]; omega
      have h1 : j < cur.length := by rw [HCL.out]; omega
      have h2 : k < cur.length := by rw [HCL.out]; omega
      have hA := atP HO.out h1
      have hB := atP HO.out h2
      have hfz := HO.out.warm
      have HWX := Lib.hid hfz
      have dx := HCD.out j h1
      have dy := HCD.out k h2
      obtain ⟨x, hx⟩ : ∃ x, gt cur j = x := ⟨_, rfl⟩
      obtain ⟨y, hy⟩ : ∃ y, gt cur k = y := ⟨_, rfl⟩
      rw [hx] at hA dx
      rw [hy] at hB dy
      obtain ⟨z, hz⟩ : ∃ z, cm x y = z := ⟨_, rfl⟩
      obtain ⟨ca0, ca1⟩ := hA
      obtain ⟨cb0, cb1⟩ := hB
      have HX := Lib.hid hx
      have HY := Lib.hid hy
      have HZ := Lib.hid hz
      have HKJ := Lib.hid hk
      clear hx hy hz hk hfz
      have hgl := lt_of_cell ca0
      have i1 : k < n := by have := HCL.out; have := HN.out; omega
      have i2 : j < n := by have := HCL.out; have := HN.out; omega
      have HCALL : ∀ W, Kept wr W → Calls Tryz.prog cb (#[ptV x, ptV y] ++ caps) W (Gives (.int .i64 z) W) := fun W hk => by rw [← HZ.out]; exact HC.out x y W dx dy (grownBy_kept (HG0.out.trans HG.out) hk)
      have HC2 := Lib.hid HCALL
      clear HCALL
      have hjk : ¬ j = k := by have := HKJ.out; omega
      have hkj : ¬ k = j := by have := HKJ.out; omega
      go_wp2
      refine region_class (fun Z => Kept wr Z) 15 (by kernel_rfl) (by kernel_rfl) (Kept.refl _).drew ?_
      simp only [List.take_succ_cons, List.take_zero, List.drop_succ_cons, List.drop_zero]
      refine wpQuiet_yield (.int .i64 j) (by rfl) (fun Z hZ => ?_) ?_
      ·
        go_simp
      simp only [Act.put, List.setIfInBounds_toArray, List.set_cons_zero, List.set_cons_succ]
      refine wpQuiet_yield (.int .i64 a) (by rfl) (fun Z hZ => ?_) ?_
      ·
        go_simp
      simp only [Act.put, List.setIfInBounds_toArray, List.set_cons_zero, List.set_cons_succ]
      refine wpQuiet_yield (.bool true) (by rfl) (fun Z hZ => ?_) ?_
      ·
        go_simp
      simp only [Act.put, List.setIfInBounds_toArray, List.set_cons_zero, List.set_cons_succ]
      refine wpQuiet_yield (.bool true) (by rfl) (fun Z hZ => ?_) ?_
      ·
        go_simp
      simp only [Act.put, List.setIfInBounds_toArray, List.set_cons_zero, List.set_cons_succ]
      refine wpQuiet_yield (.func (.func cb) #[] caps) (by rfl) (fun Z hZ => ?_) ?_
      ·
        go_simp
      simp only [Act.put, List.setIfInBounds_toArray, List.set_cons_zero, List.set_cons_succ]
      refine wpQuiet_yield (.slice (some ⟨g, 0, none⟩) n c) (by rfl) (fun Z hZ => ?_) ?_
      ·
        go_simp
      simp only [Act.put, List.setIfInBounds_toArray, List.set_cons_zero, List.set_cons_succ]
      refine wpQuiet_yield (.int .i64 j) (by rfl) (fun Z hZ => ?_) ?_
      ·
        go_simp
      simp only [Act.put, List.setIfInBounds_toArray, List.set_cons_zero, List.set_cons_succ]
      refine wpQuiet_yield (.pointer (some ⟨g, j * 2, none⟩)) (by rfl) (fun Z hZ => ?_) ?_
      ·
        go_simp
      simp only [Act.put, List.setIfInBounds_toArray, List.set_cons_zero, List.set_cons_succ]
      refine wpQuiet_yield (ptV x) (by rfl) (fun Z hZ => ?_) ?_
      ·
        have r0 := hZ.cell ca0
        have r1 := hZ.cell ca1
        have rb := lt_of_cell r0
        go_simp
      simp only [Act.put, List.setIfInBounds_toArray, List.set_cons_zero, List.set_cons_succ]
      refine wpQuiet_yield (.slice (some ⟨g, 0, none⟩) n c) (by rfl) (fun Z hZ => ?_) ?_
      ·
        go_simp
      simp only [Act.put, List.setIfInBounds_toArray, List.set_cons_zero, List.set_cons_succ]
      refine wpQuiet_yield (.int .i64 j) (by rfl) (fun Z hZ => ?_) ?_
      ·
        go_simp
      simp only [Act.put, List.setIfInBounds_toArray, List.set_cons_zero, List.set_cons_succ]
      refine wpQuiet_yield (.int .i64 k) (by rfl) (fun Z hZ => ?_) ?_
      ·
        go_simp
      simp only [Act.put, List.setIfInBounds_toArray, List.set_cons_zero, List.set_cons_succ]
      refine wpQuiet_yield (.pointer (some ⟨g, k * 2, none⟩)) (by rfl) (fun Z hZ => ?_) ?_
      ·
        go_simp
      simp only [Act.put, List.setIfInBounds_toArray, List.set_cons_zero, List.set_cons_succ]
      refine wpQuiet_yield (ptV y) (by rfl) (fun Z hZ => ?_) ?_
      ·
        have r0 := hZ.cell cb0
        have r1 := hZ.cell cb1
        have rb := lt_of_cell r0
        go_simp
      simp only [Act.put, List.setIfInBounds_toArray, List.set_cons_zero, List.set_cons_succ]
      refine wpQuiet_yield (.int .i64 z) (by rfl) (fun Z hZ => ?_) ?_
      ·
        go_simp
        have hF := HC2.out Z hZ
        exact hF.mono fun e Z' h => ⟨h.1, hZ.trans h.2⟩
      simp only [Act.put, List.setIfInBounds_toArray, List.set_cons_zero, List.set_cons_succ]
      refine wpQuiet_nil ?_
      intro X1 hk
      have HKX1 := Lib.hid hk
      clear hk
      have hqk := hjk
      by_cases hz : z < 0
      case neg =>
        have HZ0 := Lib.hid hz
        have hzd : decide (z < 0) = false := decide_eq_false hz
        clear hz
        go_wp2
        go_roundw
        case measure => simp [intOf]; omega
        case rel => exact ⟨i + 1, cur, by omega, by omega, by go_num, HED.out, HF.out.done hL HCD.out hj1 hj2 (by rw [HCL.out]; omega) (.inr (by rw [HKJ.out, HX.out, HY.out, HZ.out]; exact HZ0.out)), HO.out.kept HKX1.out, grownBy_kept HG.out HKX1.out⟩
      have HZ0 := Lib.hid hz
      have hzd : decide (z < 0) = true := decide_eq_true hz
      clear hz
      have hS := swapP (X := X1) (HO.out.kept HKX1.out) h1 h2
      rw [HX.out, HY.out] at hS
      have HS := Lib.hid hS
      clear hS
      have ca0 := HKX1.out.cell ca0
      have ca1 := HKX1.out.cell ca1
      have cb0 := HKX1.out.cell cb0
      have cb1 := HKX1.out.cell cb1
      have hfz := (HO.out.kept HKX1.out).warm
      have fa0 := hfz (j * 2)
      have fa1 := hfz (j * 2 + 1)
      have fb0 := hfz (k * 2)
      have fb1 := hfz (k * 2 + 1)
      clear hfz
      have hgl := lt_of_cell ca0
      have hst : But (fun x y => cm x y < 0) (swapAt cur j k) a i k := by rw [← HKJ.out]; exact HF.out.step hL HCD.out (by omega) hj2 (by rw [HCL.out]; omega) (by rw [HKJ.out, HX.out, HY.out, HZ.out]; exact HZ0.out)
      have HST := Lib.hid hst
      clear hst
      have hed2 : Ed l a b (swapAt cur j k) := .step HED.out (by omega) (by omega) (by have := HKJ.out; omega) (by have := HKJ.out; omega) (by rw [← HCL.out]; exact h1) (by rw [← HCL.out]; exact h2)
      have HED2 := Lib.hid hed2
      clear hed2
      go_wp2
      go_region
      all_goals go_wp2
      refine ⟨⟨k, swapAt cur j k, by have := HKJ.out; omega, by have := HKJ.out; omega, rfl, HED2.out, HST.out, HS.out.1, grownBy_drew ((grownBy_kept HG.out HKX1.out).trans HS.out.2)⟩, by have := HKJ.out; simp [intOf]; omega⟩
/-- What turning a row in place hands back. -/
def TurnedN (l : List Int) (g c base n a b : Nat) (ok : List Int → Prop) (w : World) (e : Ending) (w' : World) : Prop := ∃ l' : List Int, e = .returned (.tuple #[]) ∧ Ed l a b l' ∧ ok l' ∧ OwnN w' base (.slice (some ⟨g, 0, none⟩) n c) l' ∧ w.grownBy w' (some g)
set_option maxHeartbeats 4000000 in
theorem swapRangeN_any (l : List Int) (g c base n a b k : Nat) (f : Value) (w : World) (h : OwnN w base (.slice (some ⟨g, 0, none⟩) n c) l) (hd : a + k ≤ b) (hb : b + k ≤ l.length) (hl : l.length < 1099511627776) : Calls Tryz.prog 124 #[.slice (some ⟨g, 0, none⟩) n c, .int .i64 a, .int .i64 b, .int .i64 k, f] w (TurnedN l g c base n a (b + k) (fun l' => ∀ q, gt l' q = srF l a b k q) w) := by
  have H := Lib.hid h
  have hn := h.n_eq
  have HLL := Lib.hid hl
  clear h
  go_enter Tryz.func124, Tryz.ntmps124
  go_wp2
  go_loopw [10] (fun iv wr => ∃ (i : Nat) (cur : List Int), i ≤ k ∧ iv = .int .i64 i ∧ Ed l a (b + k) cur ∧ (∀ q, gt cur q = srF l a b i q) ∧ OwnN wr base (.slice (some ⟨g, 0, none⟩) n c) cur ∧ w.grownBy wr (some g)) (fun iv _ => k - (intOf iv).toNat)
  case atStart => exact ⟨0, l, Nat.zero_le _, rfl, .refl, fun q => srF_zero _ _ _ _, H.out, grownBy_same _ _⟩
  case round =>
    clear H
    obtain ⟨i, cur, hi, rfl, hed, hf, ho, hg⟩ := hrel
    have HED := Lib.hid hed
    have HF := Lib.hid hf
    have HO := Lib.hid ho
    have HG := Lib.hid hg
    have HCL := Lib.hid hed.len
    clear hed hf ho hg
    by_cases hlt : i < k
    ·
      have h1 : a + i < cur.length := by have := HCL.out; omega
      have h2 : b + i < cur.length := by have := HCL.out; omega
      have hA := atN HO.out h1
      have hB := atN HO.out h2
      have hS := swapN (X := wr) HO.out h1 h2
      obtain ⟨x, hx⟩ : ∃ x, gt cur (a + i) = x := ⟨_, rfl⟩
      obtain ⟨y, hy⟩ : ∃ y, gt cur (b + i) = y := ⟨_, rfl⟩
      rw [hx] at hA hS
      rw [hy] at hB hS
      have HS := Lib.hid hS
      clear hS hx hy
      have ca0 := hA
      have cb0 := hB
      clear hA hB
      have hfz := HO.out.warm
      have fa0 := hfz ((a + i))
      have fb0 := hfz ((b + i))
      clear hfz
      have hgl := lt_of_cell ca0
      have i1 : (0 : Int) ≤ (a : Int) + i := by omega
      have i2 : (a : Int) + i < n := by omega
      have i3 : (0 : Int) ≤ (b : Int) + i := by omega
      have i4 : (b : Int) + i < n := by omega
      have w1 : IntKind.i64.wrap ((a : Int) + i) = (a : Int) + i := IntWalk.i64_in _ (by have := HLL.out; omega)
      have w2 : IntKind.i64.wrap ((b : Int) + i) = (b : Int) + i := IntWalk.i64_in _ (by have := HLL.out; omega)
      have n1 : ¬ a + i = b + i := by omega
      have n2 : ¬ b + i = a + i := by omega
      have hst : ∀ q, gt (swapAt cur (a + i) (b + i)) q = srF l a b (i + 1) q := srF_step hd hb hlt HCL.out HF.out
      have HST := Lib.hid hst
      clear hst
      go_wp2
      go_region
      all_goals go_wp2
      refine ⟨⟨i + 1, swapAt cur (a + i) (b + i), by omega, by go_num, .step HED.out (by omega) (by omega) (by omega) (by omega) (by rw [← HCL.out]; exact h1) (by rw [← HCL.out]; exact h2), HST.out, HS.out.1, grownBy_drew (HG.out.trans HS.out.2)⟩, by simp [intOf]; omega⟩
    ·
      have hik : i = k := by omega
      subst hik
      go_wp2
      refine bodyPost_ret (results_none rfl _ _ _) rfl ⟨cur, rfl, HED.out, HF.out, HO.out, HG.out⟩
set_option maxHeartbeats 4000000 in
theorem rotateN_any (l : List Int) (g c base n a m b : Nat) (f : Value) (w : World) (h : OwnN w base (.slice (some ⟨g, 0, none⟩) n c) l) (ham : a < m) (hmb : m < b) (hb : b ≤ l.length) (hl : l.length < 1099511627776) : Calls Tryz.prog 122 #[.slice (some ⟨g, 0, none⟩) n c, .int .i64 a, .int .i64 m, .int .i64 b, f] w (TurnedN l g c base n a b (fun l' => ∀ q, gt l' q = rotF (gt l) a m b q) w) := by
  have H := Lib.hid h
  have HLL := Lib.hid hl
  clear h
  have w1 : IntKind.i64.wrap ((m : Int) - a) = ((m - a : Nat) : Int) := by rw [IntWalk.i64_in _ (by omega)]; omega
  have w2 : IntKind.i64.wrap ((b : Int) - m) = ((b - m : Nat) : Int) := by rw [IntWalk.i64_in _ (by omega)]; omega
  go_enter Tryz.func122, Tryz.ntmps122
  go_wp2
  go_loopw [10, 11] (fun iv jv wr => ∃ (i j : Nat) (cur : List Int), 0 < i ∧ 0 < j ∧ a + i ≤ m ∧ m + j ≤ b ∧ iv = .int .i64 i ∧ jv = .int .i64 j ∧ Ed l a b cur ∧ (∀ q, rotF (gt cur) (m - i) m (m + j) q = rotF (gt l) a m b q) ∧ OwnN wr base (.slice (some ⟨g, 0, none⟩) n c) cur ∧ w.grownBy wr (some g)) (fun iv jv _ => (intOf iv).toNat + (intOf jv).toNat)
  case atStart => exact ⟨m - a, b - m, l, by omega, by omega, by omega, by omega, rfl, rfl, .refl, fun q => by rw [show m - (m - a) = a by omega, show m + (b - m) = b by omega], H.out, grownBy_same _ _⟩
  case round =>
    clear H w1 w2
    obtain ⟨i, j, cur, hi0, hj0, him, hjb, rfl, rfl, hed, hf, ho, hg⟩ := hrel
    have HED := Lib.hid hed
    have HF := Lib.hid hf
    have HO := Lib.hid ho
    have HG := Lib.hid hg
    have HCL := Lib.hid hed.len
    clear hed hf ho hg
    have w1 : IntKind.i64.wrap ((m : Int) - i) = ((m - i : Nat) : Int) := by rw [IntWalk.i64_in _ (by omega)]; omega
    by_cases hij : i = j
    ·
      subst hij
      go_wp2_with fail
      refine (swapRangeN_any cur g c base n (m - i) m i f _ HO.out (by omega) (by rw [HCL.out]; omega) (by rw [HCL.out]; exact HLL.out)).mono ?_
      rintro e x ⟨l2, rfl, he, hk, ho, hg⟩
      have HE := Lib.hid he
      have HK := Lib.hid hk
      have HO2 := Lib.hid ho
      have HG2 := Lib.hid (HG.out.trans hg)
      clear he hk ho hg
      go_wp2
      refine bodyPost_ret (results_none rfl _ _ _) rfl ⟨l2, rfl, HED.out.trans (HE.out.wide (by omega) (by omega)), fun q => by rw [rot_last (by omega) HK.out q]; exact HF.out q, HO2.out, HG2.out⟩
    · by_cases hlt : j < i
      · have w2 : IntKind.i64.wrap ((i : Int) - j) = ((i - j : Nat) : Int) := by rw [IntWalk.i64_in _ (by omega)]; omega
        have t1 : decide ((j : Int) < i) = true := by simp; omega
        have t2 : ((i : Int) == j) = false := by simp; omega
        go_wp2_with fail
        refine (swapRangeN_any cur g c base n (m - i) m j f _ HO.out (by omega) (by rw [HCL.out]; omega) (by rw [HCL.out]; exact HLL.out)).mono ?_
        rintro e x ⟨l2, rfl, he, hk, ho, hg⟩
        have HE := Lib.hid he
        have HK := Lib.hid hk
        have HO2 := Lib.hid ho
        have HG2 := Lib.hid (HG.out.trans hg)
        clear he hk ho hg
        go_wp2
        refine ⟨⟨i - j, j, l2, by omega, by omega, by omega, by omega, by go_num, rfl, HED.out.trans (HE.out.wide (by omega) (by omega)), fun q => by rw [rot_left (by omega) (by omega) (by omega) HK.out q]; exact HF.out q, HO2.out, HG2.out⟩, by simp [intOf]; omega⟩
      · have w2 : IntKind.i64.wrap ((j : Int) - i) = ((j - i : Nat) : Int) := by rw [IntWalk.i64_in _ (by omega)]; omega
        have w3 : IntKind.i64.wrap ((m : Int) + j) = (m : Int) + j := IntWalk.i64_in _ (by have := HLL.out; omega)
        have w4 : IntKind.i64.wrap ((m : Int) + j - i) = ((m + j - i : Nat) : Int) := by rw [IntWalk.i64_in _ (by have := HLL.out; omega)]; omega
        have t1 : decide ((j : Int) < i) = false := by simp; omega
        have t2 : ((i : Int) == j) = false := by simp; omega
        go_wp2_with fail
        refine (swapRangeN_any cur g c base n (m - i) (m + j - i) i f _ HO.out (by omega) (by rw [HCL.out]; omega) (by rw [HCL.out]; exact HLL.out)).mono ?_
        rintro e x ⟨l2, rfl, he, hk, ho, hg⟩
        have HE := Lib.hid he
        have HK := Lib.hid hk
        have HO2 := Lib.hid ho
        have HG2 := Lib.hid (HG.out.trans hg)
        clear he hk ho hg
        go_wp2
        refine ⟨⟨i, j - i, l2, by omega, by omega, by omega, by omega, rfl, by go_num, HED.out.trans (HE.out.wide (by omega) (by omega)), fun q => by rw [rot_right (by omega) (by omega) (by omega) HK.out q]; exact HF.out q, HO2.out, HG2.out⟩, by simp [intOf]; omega⟩
set_option maxHeartbeats 8000000 in
theorem insertionN_any (l : List Int) (g c base n a b cb : Nat) (caps : Array Value) (D : Int → Prop) (cm : Int → Int → Int) (w0 w : World) (h : OwnN w base (.slice (some ⟨g, 0, none⟩) n c) l) (hg0 : w0.grownBy w (some g)) (hcm : CmpOk cb caps (fun x : Int => Value.int .i64 x) D cm w0 g) (hL : Lin D fun x y => cm x y < 0) (hD : All D l) (hb : b ≤ l.length) (ha : a ≤ b) (hl : l.length < 1099511627776) : Calls Tryz.prog 118 #[.slice (some ⟨g, 0, none⟩) n c, .int .i64 a, .int .i64 b, .func (.func cb) #[] caps] w (TurnedN l g c base n a b (fun l' => Srt (fun x y => cm x y < 0) l' a b) w) := by
  have H := Lib.hid h
  have HN := Lib.hid h.n_eq
  have HLL := Lib.hid hl
  have HG0 := Lib.hid hg0
  have HC := Lib.hid hcm.1
  have hcall := hcm.2
  have HD := Lib.hid hD
  clear h hg0 hcm hD
  have w1 : IntKind.i64.wrap ((a : Int) + 1) = ((a + 1 : Nat) : Int) := by rw [IntWalk.i64_in _ (by omega)]; omega
  go_enter Tryz.func118, Tryz.ntmps118
  go_wp2
  go_loopw [8] (fun iv wr => ∃ (i : Nat) (cur : List Int), a + 1 ≤ i ∧ (i ≤ b ∨ i = a + 1) ∧ iv = .int .i64 i ∧ Ed l a b cur ∧ Srt (fun x y => cm x y < 0) cur a i ∧ OwnN wr base (.slice (some ⟨g, 0, none⟩) n c) cur ∧ w.grownBy wr (some g)) (fun iv _ => b - (intOf iv).toNat)
  case atStart => exact ⟨a + 1, l, by omega, by omega, rfl, .refl, .short (by omega), H.out, grownBy_same _ _⟩
  case round =>
    clear H w1
    obtain ⟨i, cur, hi1, hi2, rfl, hed, hf, ho, hg⟩ := hrel
    have HED := Lib.hid hed
    have HF := Lib.hid hf
    have HO := Lib.hid ho
    have HG := Lib.hid hg
    have HCL := Lib.hid hed.len
    clear hed hf ho hg
    by_cases hlt : i < b
    case neg =>
      go_wp2
      refine bodyPost_ret (results_none rfl _ _ _) rfl ⟨cur, rfl, HED.out, HF.out.sub (Nat.le_refl _) (by omega), HO.out, HG.out⟩
    go_wp2
    go_loopw [9] (fun jv wr => ∃ (j : Nat) (cur : List Int), a ≤ j ∧ j ≤ i ∧ jv = .int .i64 j ∧ Ed l a b cur ∧ But (fun x y => cm x y < 0) cur a i j ∧ OwnN wr base (.slice (some ⟨g, 0, none⟩) n c) cur ∧ w.grownBy wr (some g)) (fun jv _ => (intOf jv).toNat)
    case atStart => exact ⟨i, cur, by omega, by omega, rfl, HED.out, .start HF.out, HO.out, HG.out⟩
    case round =>
      clear HED HF HO HG HCL
      obtain ⟨j, cur, hj1, hj2, rfl, hed, hf, ho, hg⟩ := hrel
      have HED := Lib.hid hed
      have HF := Lib.hid hf
      have HO := Lib.hid ho
      have HG := Lib.hid hg
      have HCL := Lib.hid hed.len
      have HCD := Lib.hid (hed.all HD.out)
      clear hed hf ho hg
      by_cases hj0 : a < j
      case neg =>
        have hd : decide ((a : Int) < j) = false := by simp; omega
        go_wp2
        refine region_tail 14 (by kernel_rfl) (by kernel_rfl) ?_
        simp only [List.take_succ_cons, List.take_zero, List.drop_succ_cons, List.drop_zero]
        iterate 4
          with_reducible refine wpStill_want ?_ (fun K hK => ?_)
          · rfl
          go_simp
          refine hK _ ?_
          clear hK K
        iterate 10
          with_reducible refine wpStill_skip ?_ ?_
          · rfl
          simp only [Act.put, List.setIfInBounds_toArray, List.set_cons_zero, List.set_cons_succ]
        refine wpStill_nil ?_
        go_wp2
        go_roundw
        case measure => simp [intOf]; omega
        case rel => exact ⟨i + 1, cur, by omega, by omega, by go_num, HED.out, HF.out.done hL HCD.out hj1 hj2 (by rw [HCL.out]; omega) (.inl (by omega)), HO.out, grownBy_drew HG.out⟩
      have hd : decide ((a : Int) < j) = true := by simp; omega
      obtain ⟨k, hk⟩ : ∃ k, j - 1 = k := ⟨_, rfl⟩
      have wk : IntKind.i64.wrap ((j : Int) - 1) = (k : Int) := by rw [IntWalk.i64_in _ (by omega)]; omega
      have h1 : j < cur.length := by rw [HCL.out]; omega
      have h2 : k < cur.length := by rw [HCL.out]; omega
      have hA := atN HO.out h1
      have hB := atN HO.out h2
      have hfz := HO.out.warm
      have HWX := Lib.hid hfz
      have dx := HCD.out j h1
      have dy := HCD.out k h2
      obtain ⟨x, hx⟩ : ∃ x, gt cur j = x := ⟨_, rfl⟩
      obtain ⟨y, hy⟩ : ∃ y, gt cur k = y := ⟨_, rfl⟩
      rw [hx] at hA dx
      rw [hy] at hB dy
      obtain ⟨z, hz⟩ : ∃ z, cm x y = z := ⟨_, rfl⟩
      have ca0 := hA
      have cb0 := hB
      clear hA hB
      have HX := Lib.hid hx
      have HY := Lib.hid hy
      have HZ := Lib.hid hz
      have HKJ := Lib.hid hk
      clear hx hy hz hk hfz
      have hgl := lt_of_cell ca0
      have i1 : k < n := by have := HCL.out; have := HN.out; omega
      have i2 : j < n := by have := HCL.out; have := HN.out; omega
      have HCALL : ∀ W, Kept wr W → Calls Tryz.prog cb (#[.int .i64 x, .int .i64 y] ++ caps) W (Gives (.int .i64 z) W) := fun W hk => by rw [← HZ.out]; exact HC.out x y W dx dy (grownBy_kept (HG0.out.trans HG.out) hk)
      have HC2 := Lib.hid HCALL
      clear HCALL
      have hjk : ¬ j = k := by have := HKJ.out; omega
      have hkj : ¬ k = j := by have := HKJ.out; omega
      go_wp2
      refine region_class (fun Z => Kept wr Z) 15 (by kernel_rfl) (by kernel_rfl) (Kept.refl _).drew ?_
      simp only [List.take_succ_cons, List.take_zero, List.drop_succ_cons, List.drop_zero]
      refine wpQuiet_yield (.int .i64 j) (by rfl) (fun Z hZ => ?_) ?_
      ·
        go_simp
      simp only [Act.put, List.setIfInBounds_toArray, List.set_cons_zero, List.set_cons_succ]
      refine wpQuiet_yield (.int .i64 a) (by rfl) (fun Z hZ => ?_) ?_
      ·
        go_simp
      simp only [Act.put, List.setIfInBounds_toArray, List.set_cons_zero, List.set_cons_succ]
      refine wpQuiet_yield (.bool true) (by rfl) (fun Z hZ => ?_) ?_
      ·
        go_simp
      simp only [Act.put, List.setIfInBounds_toArray, List.set_cons_zero, List.set_cons_succ]
      refine wpQuiet_yield (.bool true) (by rfl) (fun Z hZ => ?_) ?_
      ·
        go_simp
      simp only [Act.put, List.setIfInBounds_toArray, List.set_cons_zero, List.set_cons_succ]
      refine wpQuiet_yield (.func (.func cb) #[] caps) (by rfl) (fun Z hZ => ?_) ?_
      ·
        go_simp
      simp only [Act.put, List.setIfInBounds_toArray, List.set_cons_zero, List.set_cons_succ]
      refine wpQuiet_yield (.slice (some ⟨g, 0, none⟩) n c) (by rfl) (fun Z hZ => ?_) ?_
      ·
        go_simp
      simp only [Act.put, List.setIfInBounds_toArray, List.set_cons_zero, List.set_cons_succ]
      refine wpQuiet_yield (.int .i64 j) (by rfl) (fun Z hZ => ?_) ?_
      ·
        go_simp
      simp only [Act.put, List.setIfInBounds_toArray, List.set_cons_zero, List.set_cons_succ]
      refine wpQuiet_yield (.pointer (some ⟨g, j, none⟩)) (by rfl) (fun Z hZ => ?_) ?_
      ·
        go_simp
      simp only [Act.put, List.setIfInBounds_toArray, List.set_cons_zero, List.set_cons_succ]
      refine wpQuiet_yield (.int .i64 x) (by rfl) (fun Z hZ => ?_) ?_
      ·
        have r0 := hZ.cell ca0
        have rb := lt_of_cell r0
        go_simp
      simp only [Act.put, List.setIfInBounds_toArray, List.set_cons_zero, List.set_cons_succ]
      refine wpQuiet_yield (.slice (some ⟨g, 0, none⟩) n c) (by rfl) (fun Z hZ => ?_) ?_
      ·
        go_simp
      simp only [Act.put, List.setIfInBounds_toArray, List.set_cons_zero, List.set_cons_succ]
      refine wpQuiet_yield (.int .i64 j) (by rfl) (fun Z hZ => ?_) ?_
      ·
        go_simp
      simp only [Act.put, List.setIfInBounds_toArray, List.set_cons_zero, List.set_cons_succ]
      refine wpQuiet_yield (.int .i64 k) (by rfl) (fun Z hZ => ?_) ?_
      ·
        go_simp
      simp only [Act.put, List.setIfInBounds_toArray, List.set_cons_zero, List.set_cons_succ]
      refine wpQuiet_yield (.pointer (some ⟨g, k, none⟩)) (by rfl) (fun Z hZ => ?_) ?_
      ·
        go_simp
      simp only [Act.put, List.setIfInBounds_toArray, List.set_cons_zero, List.set_cons_succ]
      refine wpQuiet_yield (.int .i64 y) (by rfl) (fun Z hZ => ?_) ?_
      ·
        have r0 := hZ.cell cb0
        have rb := lt_of_cell r0
        go_simp
      simp only [Act.put, List.setIfInBounds_toArray, List.set_cons_zero, List.set_cons_succ]
      refine wpQuiet_yield (.int .i64 z) (by rfl) (fun Z hZ => ?_) ?_
      ·
        go_simp
        have hF := HC2.out Z hZ
        exact hF.mono fun e Z' h => ⟨h.1, hZ.trans h.2⟩
      simp only [Act.put, List.setIfInBounds_toArray, List.set_cons_zero, List.set_cons_succ]
      refine wpQuiet_nil ?_
      intro X1 hk
      have HKX1 := Lib.hid hk
      clear hk
      have hqk := hjk
      by_cases hz : z < 0
      case neg =>
        have HZ0 := Lib.hid hz
        have hzd : decide (z < 0) = false := decide_eq_false hz
        clear hz
        go_wp2
        go_roundw
        case measure => simp [intOf]; omega
        case rel => exact ⟨i + 1, cur, by omega, by omega, by go_num, HED.out, HF.out.done hL HCD.out hj1 hj2 (by rw [HCL.out]; omega) (.inr (by rw [HKJ.out, HX.out, HY.out, HZ.out]; exact HZ0.out)), HO.out.kept HKX1.out, grownBy_kept HG.out HKX1.out⟩
      have HZ0 := Lib.hid hz
      have hzd : decide (z < 0) = true := decide_eq_true hz
      clear hz
      have hS := swapN (X := X1) (HO.out.kept HKX1.out) h1 h2
      rw [HX.out, HY.out] at hS
      have HS := Lib.hid hS
      clear hS
      have ca0 := HKX1.out.cell ca0
      have cb0 := HKX1.out.cell cb0
      have hfz := (HO.out.kept HKX1.out).warm
      have fa0 := hfz (j)
      have fb0 := hfz (k)
      clear hfz
      have hgl := lt_of_cell ca0
      have hst : But (fun x y => cm x y < 0) (swapAt cur j k) a i k := by rw [← HKJ.out]; exact HF.out.step hL HCD.out (by omega) hj2 (by rw [HCL.out]; omega) (by rw [HKJ.out, HX.out, HY.out, HZ.out]; exact HZ0.out)
      have HST := Lib.hid hst
      clear hst
      have hed2 : Ed l a b (swapAt cur j k) := .step HED.out (by omega) (by omega) (by have := HKJ.out; omega) (by have := HKJ.out; omega) (by rw [← HCL.out]; exact h1) (by rw [← HCL.out]; exact h2)
      have HED2 := Lib.hid hed2
      clear hed2
      go_wp2
      go_region
      all_goals go_wp2
      refine ⟨⟨k, swapAt cur j k, by have := HKJ.out; omega, by have := HKJ.out; omega, rfl, HED2.out, HST.out, HS.out.1, grownBy_drew ((grownBy_kept HG.out HKX1.out).trans HS.out.2)⟩, by have := HKJ.out; simp [intOf]; omega⟩
end Go.Proofs.YtlglfcdobbocnaaGreat
