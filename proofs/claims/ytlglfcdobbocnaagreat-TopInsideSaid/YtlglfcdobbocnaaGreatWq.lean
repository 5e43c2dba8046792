/- slices' symMerge at rows of one's own. -/
import Derived.Test.YtlglfcdobbocnaaGreatWp
set_option maxRecDepth 100000
namespace Go.Proofs.YtlglfcdobbocnaaGreat
open Go Go.Proofs Go.RowKit
attribute [local go_sem] Oper.semAt_some
section
variable {α : Type} [Inhabited α]
theorem rot_none {l : List α} {s m t : Nat} (h1 : s ≤ m) (h2 : m ≤ t) (h : ¬ (s < m ∧ m < t)) (q : Nat) : gt l q = rotF (gt l) s m t q := by
  unfold rotF
  repeat' split
  all_goals first | rfl | (exfalso; omega) | (congr 1; omega)
end
/-- A search by halves. -/
def Bis (lo hi : Nat) (P : Nat → Nat → Prop) (w : World) (iv jv : Value) (wr : World) : Prop := ∃ i j : Nat, lo ≤ i ∧ i ≤ j ∧ j ≤ hi ∧ iv = .int .i64 i ∧ jv = .int .i64 j ∧ P i j ∧ Kept w wr
set_option maxHeartbeats 8000000 in
theorem symP_one (g c base n cb : Nat) (caps : Array Value) (D : Pt → Prop) (cm : Pt → Pt → Int) (w0 : World) (hcm : CmpOk cb caps ptV D cm w0 g) (hL : Lin D fun x y => cm x y < 0) (l : List Pt) (a m b : Nat) (w : World) (h : OwnP w base (.slice (some ⟨g, 0, none⟩) n c) l) (hg0 : w0.grownBy w (some g)) (hD : All D l) (ham : a < m) (hmb : m < b) (hb : b ≤ l.length) (hl : l.length < 1099511627776) (k1 : Srt (fun x y => cm x y < 0) l a m) (k2 : Srt (fun x y => cm x y < 0) l m b) (hm : a + 1 = m) : Calls Tryz.prog 117 #[.slice (some ⟨g, 0, none⟩) n c, .int .i64 a, .int .i64 m, .int .i64 b, .func (.func cb) #[] caps] w (TurnedP l g c base n a b (fun l' => Srt (fun x y => cm x y < 0) l' a b) w) := by
  have HC := Lib.hid hcm.1
  have hcall := hcm.2
  clear hcm
  have H := Lib.hid h
  have HN := Lib.hid h.n_eq
  have HLL := Lib.hid hl
  have HG0 := Lib.hid hg0
  have HD := Lib.hid hD
  have K1 := Lib.hid k1
  have K2 := Lib.hid k2
  clear h hg0 hD k1 k2
  subst hm
  have w1 : IntKind.i64.wrap (((a + 1 : Nat) : Int) - a) = 1 := by rw [IntWalk.i64_in _ (by omega)]; omega
  go_enter Tryz.func117, Tryz.ntmps117
  go_wp2
  go_loopw [10, 11] (fun iv jv wr => Bis (a + 1) (b) (fun i j => (a + 1 < i → cm (gt l (i - 1)) (gt l a) < 0) ∧ (j < b → ¬ cm (gt l j) (gt l a) < 0)) w iv jv wr) (fun iv jv _ => (intOf jv).toNat - (intOf iv).toNat)
  case atStart => exact ⟨a + 1, b, Nat.le_refl _, by omega, Nat.le_refl _, rfl, rfl, ⟨fun k => absurd k (Nat.lt_irrefl _), fun k => absurd k (Nat.lt_irrefl _)⟩, Kept.refl w⟩
  case round =>
    clear w1
    obtain ⟨i, j, hi, hij, hj, rfl, rfl, hci, hkw⟩ := hrel
    have HCI := Lib.hid hci
    have HKW := Lib.hid hkw
    have HO := Lib.hid (H.out.kept hkw)
    clear hci hkw
    by_cases hlt : i < j
    ·
      obtain ⟨h, hh⟩ : ∃ h, (i + j) / 2 = h := ⟨_, rfl⟩
      have hm : ((i : Int) + j) / 2 = (h : Int) := by omega
      have hh1 : i ≤ h := by omega
      have hh2 : h < j := by omega
      clear hh
      have h1 : h < l.length := by omega
      have h2 : a < l.length := by omega
      have hA := atP HO.out h1
      have hB := atP HO.out h2
      obtain ⟨x, hx⟩ : ∃ x, gt l h = x := ⟨_, rfl⟩
      obtain ⟨y, hy⟩ : ∃ y, gt l a = y := ⟨_, rfl⟩
      rw [hx] at hA
      rw [hy] at hB
      obtain ⟨ca0, ca1⟩ := hA
      obtain ⟨cb0, cb1⟩ := hB
      have hgl := lt_of_cell ca0
      have dx := HD.out _ h1
      have dy := HD.out _ h2
      rw [hx] at dx
      rw [hy] at dy
      obtain ⟨z, hz⟩ : ∃ z, cm x y = z := ⟨_, rfl⟩
      have i1 : h < n := by have := HN.out; omega
      have i2 : a < n := by have := HN.out; omega
      have HC2 : Hid (∀ W, Kept wr W → Calls Tryz.prog cb (#[ptV x, ptV y] ++ caps) W (Gives (.int .i64 z) W)) := Lib.hid fun W hk => by rw [← hz]; exact HC.out x y W dx dy (grownBy_kept HG0.out (HKW.out.trans hk))
      have HX := Lib.hid hx
      have HY := Lib.hid hy
      have HZ := Lib.hid hz
      clear hx hy hz
      go_wp2
      refine region_class (fun Z => Kept wr Z) 10 (by kernel_rfl) (by kernel_rfl) (Kept.refl _).drew ?_
      simp only [List.take_succ_cons, List.take_zero, List.drop_succ_cons, List.drop_zero]
      refine wpQuiet_yield (.func (.func cb) #[] caps) (by rfl) (fun Z hZ => ?_) ?_
      ·
        go_simp
      simp only [Act.put, List.setIfInBounds_toArray, List.set_cons_zero, List.set_cons_succ]
      refine wpQuiet_yield (.slice (some ⟨g, 0, none⟩) n c) (by rfl) (fun Z hZ => ?_) ?_
      ·
        go_simp
      simp only [Act.put, List.setIfInBounds_toArray, List.set_cons_zero, List.set_cons_succ]
      refine wpQuiet_yield (.int .i64 h) (by rfl) (fun Z hZ => ?_) ?_
      ·
        go_simp
      simp only [Act.put, List.setIfInBounds_toArray, List.set_cons_zero, List.set_cons_succ]
      refine wpQuiet_yield (.pointer (some ⟨g, h * 2, none⟩)) (by rfl) (fun Z hZ => ?_) ?_
      ·
        go_simp
      simp only [Act.put, List.setIfInBounds_toArray, List.set_cons_zero, List.set_cons_succ]
      refine wpQuiet_yield (ptV x) (by rfl) (fun Z hZ => ?_) ?_
      ·
        have r0 := hZ.cell ca0
        have r1 := hZ.cell ca1
        have rb := lt_of_cell r0
        go_simp
      simp only [Act.put, List.setIfInBounds_toArray, List.set_cons_zero, List.set_cons_succ]
      refine wpQuiet_yield (.slice (some ⟨g, 0, none⟩) n c) (by rfl) (fun Z hZ => ?_) ?_
      ·
        go_simp
      simp only [Act.put, List.setIfInBounds_toArray, List.set_cons_zero, List.set_cons_succ]
      refine wpQuiet_yield (.int .i64 a) (by rfl) (fun Z hZ => ?_) ?_
      ·
        go_simp
      simp only [Act.put, List.setIfInBounds_toArray, List.set_cons_zero, List.set_cons_succ]
      refine wpQuiet_yield (.pointer (some ⟨g, a * 2, none⟩)) (by rfl) (fun Z hZ => ?_) ?_
      ·
        go_simp
      simp only [Act.put, List.setIfInBounds_toArray, List.set_cons_zero, List.set_cons_succ]
      refine wpQuiet_yield (ptV y) (by rfl) (fun Z hZ => ?_) ?_
      ·
        have r0 := hZ.cell cb0
        have r1 := hZ.cell cb1
        have rb := lt_of_cell r0
        go_simp
      simp only [Act.put, List.setIfInBounds_toArray, List.set_cons_zero, List.set_cons_succ]
      refine wpQuiet_yield (.int .i64 z) (by rfl) (fun Z hZ => ?_) ?_
      ·
        go_simp
        have hF := HC2.out Z hZ
        exact hF.mono fun e Z' h => ⟨h.1, hZ.trans h.2⟩
      simp only [Act.put, List.setIfInBounds_toArray, List.set_cons_zero, List.set_cons_succ]
      refine wpQuiet_nil ?_
      intro X1 hk
      have HKX1 := Lib.hid hk
      clear hk
      by_cases hz : z < 0
      ·
        have HZ0 := Lib.hid hz
        have hzd : decide (z < 0) = true := decide_eq_true hz
        clear hz
        go_wp2
        refine ⟨⟨h + 1, j, by omega, by omega, by omega, by go_num, rfl, ⟨fun _ => by rw [show h + 1 - 1 = h by omega, HX.out, HY.out, HZ.out]; exact HZ0.out, fun h => by have := HCI.out.2 h; omega⟩, HKW.out.trans HKX1.out⟩, by simp [intOf]; omega⟩
      ·
        have HZ0 := Lib.hid hz
        have hzd : decide (z < 0) = false := decide_eq_false hz
        clear hz
        go_wp2
        refine ⟨⟨i, h, by omega, by omega, by omega, rfl, rfl, ⟨fun h => by have := HCI.out.1 h; omega, fun _ => by rw [HX.out, HY.out, HZ.out]; exact HZ0.out⟩, HKW.out.trans HKX1.out⟩, by simp [intOf]; omega⟩
    ·
      obtain rfl : i = j := by omega
      go_wp2
      clear hij hlt
      obtain ⟨e, he⟩ : ∃ e, i - 1 = e := ⟨_, rfl⟩
      have we : IntKind.i64.wrap ((i : Int) - 1) = (e : Int) := by rw [IntWalk.i64_in _ (by omega)]; omega
      have HE := Lib.hid he
      have hae : a ≤ e := by omega
      have heb : e + 1 ≤ b := by omega
      clear he
      go_loopw [13] (fun kv wr => ∃ (k : Nat) (cur : List Pt), a ≤ k ∧ k ≤ e ∧ kv = .int .i64 k ∧ Ed l a b cur ∧ (∀ q, gt cur q = upF l a k q) ∧ OwnP wr base (.slice (some ⟨g, 0, none⟩) n c) cur ∧ w.grownBy wr (some g)) (fun kv _ => e - (intOf kv).toNat)
      case atStart => exact ⟨a, l, Nat.le_refl _, hae, rfl, .refl, fun q => upF_zero l a q, HO.out, grownBy_kept (grownBy_same _ _) HKW.out⟩
      case round =>
        clear HKW HO
        obtain ⟨k, cur, hk1, hk2, rfl, hed, hf, ho, hg⟩ := hrel
        have HED := Lib.hid hed
        have HF := Lib.hid hf
        have HO := Lib.hid ho
        have HG := Lib.hid hg
        have HCL := Lib.hid hed.len
        clear hed hf ho hg
        by_cases hlt : k < e
        ·
          obtain ⟨k1, hk⟩ : ∃ k1, k + 1 = k1 := ⟨_, rfl⟩
          have wk : IntKind.i64.wrap ((k : Int) + 1) = (k1 : Int) := by rw [IntWalk.i64_in _ (by omega)]; omega
          have HKJ := Lib.hid hk
          have h1 : k < cur.length := by rw [HCL.out]; omega
          have h2 : k1 < cur.length := by rw [HCL.out]; omega
          have i1 : k < n := by have := HN.out; omega
          have i2 : k1 < n := by have := HN.out; omega
          have n1 : ¬ k = k1 := by omega
          have n2 : ¬ k1 = k := by omega
          have hA := atP HO.out h1
          have hB := atP HO.out h2
          obtain ⟨x, hx⟩ : ∃ x, gt cur k = x := ⟨_, rfl⟩
          obtain ⟨y, hy⟩ : ∃ y, gt cur k1 = y := ⟨_, rfl⟩
          rw [hx] at hA
          rw [hy] at hB
          obtain ⟨ca0, ca1⟩ := hA
          obtain ⟨cb0, cb1⟩ := hB
          have hgl := lt_of_cell ca0
          have hst : ∀ q, gt (swapAt cur k k1) q = upF l a k1 q := by rw [← HKJ.out]; exact fun q => upF_step hk1 (by omega) HCL.out HF.out q
          have HST := Lib.hid hst
          clear hst
          have HED2 : Hid (Ed l a b (swapAt cur k k1)) := Lib.hid (.step HED.out (by omega) (by omega) (by omega) (by omega) (by rw [← HCL.out]; exact h1) (by rw [← HCL.out]; exact h2))
          have hS := swapP (X := wr) HO.out h1 h2
          rw [hx, hy] at hS
          have HS := Lib.hid hS
          have hfz := (HO.out).warm
          have fa0 := hfz (k * 2)
          have fa1 := hfz (k * 2 + 1)
          have fb0 := hfz (k1 * 2)
          have fb1 := hfz (k1 * 2 + 1)
          clear hfz hS hx hy
          clear hk
          go_wp2
          go_region
          all_goals go_wp2
          have hkk := HKJ.out
          refine ⟨⟨k1, swapAt cur k k1, by omega, by omega, rfl, HED2.out, HST.out, HS.out.1, grownBy_drew (HG.out.trans HS.out.2)⟩, by simp [intOf]; omega⟩
        ·
          obtain rfl : k = e := by omega
          go_wp2
          refine bodyPost_ret (results_none rfl _ _ _) rfl ⟨cur, rfl, HED.out, up_srt hL HD.out hi hj hb K2.out HCI.out.1 (fun h => by have := HCI.out.2 h; omega) (by rw [HE.out]; exact HF.out), HO.out, HG.out⟩
set_option maxHeartbeats 8000000 in
theorem symP_last (g c base n cb : Nat) (caps : Array Value) (D : Pt → Prop) (cm : Pt → Pt → Int) (w0 : World) (hcm : CmpOk cb caps ptV D cm w0 g) (hL : Lin D fun x y => cm x y < 0) (l : List Pt) (a m b : Nat) (w : World) (h : OwnP w base (.slice (some ⟨g, 0, none⟩) n c) l) (hg0 : w0.grownBy w (some g)) (hD : All D l) (ham : a < m) (hmb : m < b) (hb : b ≤ l.length) (hl : l.length < 1099511627776) (k1 : Srt (fun x y => cm x y < 0) l a m) (k2 : Srt (fun x y => cm x y < 0) l m b) (hm0 : ¬ a + 1 = m) (hm : m + 1 = b) : Calls Tryz.prog 117 #[.slice (some ⟨g, 0, none⟩) n c, .int .i64 a, .int .i64 m, .int .i64 b, .func (.func cb) #[] caps] w (TurnedP l g c base n a b (fun l' => Srt (fun x y => cm x y < 0) l' a b) w) := by
  have HC := Lib.hid hcm.1
  have hcall := hcm.2
  clear hcm
  have H := Lib.hid h
  have HN := Lib.hid h.n_eq
  have HLL := Lib.hid hl
  have HG0 := Lib.hid hg0
  have HD := Lib.hid hD
  have K1 := Lib.hid k1
  have K2 := Lib.hid k2
  clear h hg0 hD k1 k2
  subst hm
  have w1 : IntKind.i64.wrap ((m : Int) - a) = (m : Int) - a := IntWalk.i64_in _ (by omega)
  have w2 : IntKind.i64.wrap (((m + 1 : Nat) : Int) - m) = 1 := by rw [IntWalk.i64_in _ (by omega)]; omega
  have t1 : ((m : Int) - a == 1) = false := by simp; omega
  go_enter Tryz.func117, Tryz.ntmps117
  go_wp2
  go_loopw [14, 15] (fun iv jv wr => Bis (a) (m) (fun i j => (a < i → ¬ cm (gt l m) (gt l (i - 1)) < 0) ∧ (j < m → cm (gt l m) (gt l j) < 0)) w iv jv wr) (fun iv jv _ => (intOf jv).toNat - (intOf iv).toNat)
  case atStart => exact ⟨a, m, Nat.le_refl _, by omega, Nat.le_refl _, rfl, rfl, ⟨fun k => absurd k (Nat.lt_irrefl _), fun k => absurd k (Nat.lt_irrefl _)⟩, Kept.refl w⟩
  case round =>
    clear w1 w2 t1
    obtain ⟨i, j, hi, hij, hj, rfl, rfl, hci, hkw⟩ := hrel
    have HCI := Lib.hid hci
    have HKW := Lib.hid hkw
    have HO := Lib.hid (H.out.kept hkw)
    clear hci hkw
    by_cases hlt : i < j
    ·
      obtain ⟨h, hh⟩ : ∃ h, (i + j) / 2 = h := ⟨_, rfl⟩
      have hm : ((i : Int) + j) / 2 = (h : Int) := by omega
      have hh1 : i ≤ h := by omega
      have hh2 : h < j := by omega
      clear hh
      have h1 : h < l.length := by omega
      have h2 : m < l.length := by omega
      have hA := atP HO.out h2
      have hB := atP HO.out h1
      obtain ⟨x, hx⟩ : ∃ x, gt l m = x := ⟨_, rfl⟩
      obtain ⟨y, hy⟩ : ∃ y, gt l h = y := ⟨_, rfl⟩
      rw [hx] at hA
      rw [hy] at hB
      obtain ⟨ca0, ca1⟩ := hA
      obtain ⟨cb0, cb1⟩ := hB
      have hgl := lt_of_cell ca0
      have dx := HD.out _ h1
      have dy := HD.out _ h2
      rw [hy] at dx
      rw [hx] at dy
      obtain ⟨z, hz⟩ : ∃ z, cm x y = z := ⟨_, rfl⟩
      have i1 : h < n := by have := HN.out; omega
      have i2 : m < n := by have := HN.out; omega
      have HC2 : Hid (∀ W, Kept wr W → Calls Tryz.prog cb (#[ptV x, ptV y] ++ caps) W (Gives (.int .i64 z) W)) := Lib.hid fun W hk => by rw [← hz]; exact HC.out x y W dy dx (grownBy_kept HG0.out (HKW.out.trans hk))
      have HX := Lib.hid hx
      have HY := Lib.hid hy
      have HZ := Lib.hid hz
      clear hx hy hz
      go_wp2
      refine region_class (fun Z => Kept wr Z) 10 (by kernel_rfl) (by kernel_rfl) (Kept.refl _).drew ?_
      simp only [List.take_succ_cons, List.take_zero, List.drop_succ_cons, List.drop_zero]
      refine wpQuiet_yield (.func (.func cb) #[] caps) (by rfl) (fun Z hZ => ?_) ?_
      ·
        go_simp
      simp only [Act.put, List.setIfInBounds_toArray, List.set_cons_zero, List.set_cons_succ]
      refine wpQuiet_yield (.slice (some ⟨g, 0, none⟩) n c) (by rfl) (fun Z hZ => ?_) ?_
      ·
        go_simp
      simp only [Act.put, List.setIfInBounds_toArray, List.set_cons_zero, List.set_cons_succ]
      refine wpQuiet_yield (.int .i64 m) (by rfl) (fun Z hZ => ?_) ?_
      ·
        go_simp
      simp only [Act.put, List.setIfInBounds_toArray, List.set_cons_zero, List.set_cons_succ]
      refine wpQuiet_yield (.pointer (some ⟨g, m * 2, none⟩)) (by rfl) (fun Z hZ => ?_) ?_
      ·
        go_simp
      simp only [Act.put, List.setIfInBounds_toArray, List.set_cons_zero, List.set_cons_succ]
      refine wpQuiet_yield (ptV x) (by rfl) (fun Z hZ => ?_) ?_
      ·
        have r0 := hZ.cell ca0
        have r1 := hZ.cell ca1
        have rb := lt_of_cell r0
        go_simp
      simp only [Act.put, List.setIfInBounds_toArray, List.set_cons_zero, List.set_cons_succ]
      refine wpQuiet_yield (.slice (some ⟨g, 0, none⟩) n c) (by rfl) (fun Z hZ => ?_) ?_
      ·
        go_simp
      simp only [Act.put, List.setIfInBounds_toArray, List.set_cons_zero, List.set_cons_succ]
      refine wpQuiet_yield (.int .i64 h) (by rfl) (fun Z hZ => ?_) ?_
      ·
        go_simp
      simp only [Act.put, List.setIfInBounds_toArray, List.set_cons_zero, List.set_cons_succ]
      refine wpQuiet_yield (.pointer (some ⟨g, h * 2, none⟩)) (by rfl) (fun Z hZ => ?_) ?_
      ·
        go_simp
      simp only [Act.put, List.setIfInBounds_toArray, List.set_cons_zero, List.set_cons_succ]
      refine wpQuiet_yield (ptV y) (by rfl) (fun Z hZ => ?_) ?_
      ·
        have r0 := hZ.cell cb0
        have r1 := hZ.cell cb1
        have rb := lt_of_cell r0
        go_simp
      simp only [Act.put, List.setIfInBounds_toArray, List.set_cons_zero, List.set_cons_succ]
      refine wpQuiet_yield (.int .i64 z) (by rfl) (fun Z hZ => ?_) ?_
      ·
        go_simp
        have hF := HC2.out Z hZ
        exact hF.mono fun e Z' h => ⟨h.1, hZ.trans h.2⟩
      simp only [Act.put, List.setIfInBounds_toArray, List.set_cons_zero, List.set_cons_succ]
      refine wpQuiet_nil ?_
      intro X1 hk
      have HKX1 := Lib.hid hk
      clear hk
      by_cases hz : z < 0
      ·
        have HZ0 := Lib.hid hz
        have hzd : decide (z < 0) = true := decide_eq_true hz
        clear hz
        go_wp2
        refine ⟨⟨i, h, by omega, by omega, by omega, rfl, rfl, ⟨fun h => by have := HCI.out.1 h; omega, fun _ => by rw [HX.out, HY.out, HZ.out]; exact HZ0.out⟩, HKW.out.trans HKX1.out⟩, by simp [intOf]; omega⟩
      ·
        have HZ0 := Lib.hid hz
        have hzd : decide (z < 0) = false := decide_eq_false hz
        clear hz
        go_wp2
        refine ⟨⟨h + 1, j, by omega, by omega, by omega, by go_num, rfl, ⟨fun _ => by rw [show h + 1 - 1 = h by omega, HX.out, HY.out, HZ.out]; exact HZ0.out, fun h => by have := HCI.out.2 h; omega⟩, HKW.out.trans HKX1.out⟩, by simp [intOf]; omega⟩
    ·
      obtain rfl : i = j := by omega
      go_wp2
      clear hij hlt
      go_loopw [17] (fun kv wr => ∃ (k : Nat) (cur : List Pt), i ≤ k ∧ k ≤ m ∧ kv = .int .i64 k ∧ Ed l a (m + 1) cur ∧ (∀ q, gt cur q = dnF l k m q) ∧ OwnP wr base (.slice (some ⟨g, 0, none⟩) n c) cur ∧ w.grownBy wr (some g)) (fun kv _ => (intOf kv).toNat)
      case atStart => exact ⟨m, l, hj, Nat.le_refl _, rfl, .refl, fun q => dnF_zero l m q, HO.out, grownBy_kept (grownBy_same _ _) HKW.out⟩
      case round =>
        clear HKW HO
        obtain ⟨k, cur, hk1, hk2, rfl, hed, hf, ho, hg⟩ := hrel
        have HED := Lib.hid hed
        have HF := Lib.hid hf
        have HO := Lib.hid ho
        have HG := Lib.hid hg
        have HCL := Lib.hid hed.len
        clear hed hf ho hg
        by_cases hlt : i < k
        ·
          obtain ⟨k1, hk⟩ : ∃ k1, k - 1 = k1 := ⟨_, rfl⟩
          have wk : IntKind.i64.wrap ((k : Int) - 1) = (k1 : Int) := by rw [IntWalk.i64_in _ (by omega)]; omega
          have HKJ := Lib.hid hk
          have h1 : k < cur.length := by rw [HCL.out]; omega
          have h2 : k1 < cur.length := by rw [HCL.out]; omega
          have i1 : k < n := by have := HN.out; omega
          have i2 : k1 < n := by have := HN.out; omega
          have n1 : ¬ k = k1 := by omega
          have n2 : ¬ k1 = k := by omega
          have hA := atP HO.out h1
          have hB := atP HO.out h2
          obtain ⟨x, hx⟩ : ∃ x, gt cur k = x := ⟨_, rfl⟩
          obtain ⟨y, hy⟩ : ∃ y, gt cur k1 = y := ⟨_, rfl⟩
          rw [hx] at hA
          rw [hy] at hB
          obtain ⟨ca0, ca1⟩ := hA
          obtain ⟨cb0, cb1⟩ := hB
          have hgl := lt_of_cell ca0
          have hst : ∀ q, gt (swapAt cur k k1) q = dnF l k1 m q := by rw [← HKJ.out]; exact fun q => dnF_step (by omega) hk2 (by omega) HCL.out HF.out q
          have HST := Lib.hid hst
          clear hst
          have HED2 : Hid (Ed l a (m + 1) (swapAt cur k k1)) := Lib.hid (.step HED.out (by omega) (by omega) (by omega) (by omega) (by rw [← HCL.out]; exact h1) (by rw [← HCL.out]; exact h2))
          have hS := swapP (X := wr) HO.out h1 h2
          rw [hx, hy] at hS
          have HS := Lib.hid hS
          have hfz := (HO.out).warm
          have fa0 := hfz (k * 2)
          have fa1 := hfz (k * 2 + 1)
          have fb0 := hfz (k1 * 2)
          have fb1 := hfz (k1 * 2 + 1)
          clear hfz hS hx hy
          clear hk
          go_wp2
          go_region
          all_goals go_wp2
          have hkk := HKJ.out
          refine ⟨⟨k1, swapAt cur k k1, by omega, by omega, rfl, HED2.out, HST.out, HS.out.1, grownBy_drew (HG.out.trans HS.out.2)⟩, by simp [intOf]; omega⟩
        ·
          obtain rfl : k = i := by omega
          go_wp2
          refine bodyPost_ret (results_none rfl _ _ _) rfl ⟨cur, rfl, HED.out, dn_srt hL HD.out hi hj (by omega) K1.out (fun h => by have := HCI.out.1 h; omega) HCI.out.2 HF.out, HO.out, HG.out⟩
set_option maxHeartbeats 40000000 in
theorem symP_step (g c base n cb : Nat) (caps : Array Value) (D : Pt → Prop) (cm : Pt → Pt → Int) (w0 : World) (hcm : CmpOk cb caps ptV D cm w0 g) (hL : Lin D fun x y => cm x y < 0) (N : Nat) (ih : ∀ (l : List Pt) (a m b : Nat) (w : World), OwnP w base (.slice (some ⟨g, 0, none⟩) n c) l → w0.grownBy w (some g) → All D l → a < m → m < b → b ≤ l.length → l.length < 1099511627776 → Srt (fun x y => cm x y < 0) l a m → Srt (fun x y => cm x y < 0) l m b → b - a ≤ N → Calls Tryz.prog 117 #[.slice (some ⟨g, 0, none⟩) n c, .int .i64 a, .int .i64 m, .int .i64 b, .func (.func cb) #[] caps] w (TurnedP l g c base n a b (fun l' => Srt (fun x y => cm x y < 0) l' a b) w)) (l : List Pt) (a m b : Nat) (w : World) (h : OwnP w base (.slice (some ⟨g, 0, none⟩) n c) l) (hg0 : w0.grownBy w (some g)) (hD : All D l) (ham : a < m) (hmb : m < b) (hb : b ≤ l.length) (hl : l.length < 1099511627776) (k1 : Srt (fun x y => cm x y < 0) l a m) (k2 : Srt (fun x y => cm x y < 0) l m b) (hN : b - a ≤ N + 1) : Calls Tryz.prog 117 #[.slice (some ⟨g, 0, none⟩) n c, .int .i64 a, .int .i64 m, .int .i64 b, .func (.func cb) #[] caps] w (TurnedP l g c base n a b (fun l' => Srt (fun x y => cm x y < 0) l' a b) w) := by
  have HIH := Lib.hid ih
  clear ih
  by_cases hm : a + 1 = m
  · exact symP_one g c base n cb caps D cm w0 hcm hL l a m b w h hg0 hD ham hmb hb hl k1 k2 hm
  by_cases hm2 : m + 1 = b
  · exact symP_last g c base n cb caps D cm w0 hcm hL l a m b w h hg0 hD ham hmb hb hl k1 k2 hm hm2
  have HCM := Lib.hid hcm
  have HC := Lib.hid hcm.1
  have hcall := hcm.2
  clear hcm
  have H := Lib.hid h
  have HN := Lib.hid h.n_eq
  have HLL := Lib.hid hl
  have HG0 := Lib.hid hg0
  have HD := Lib.hid hD
  have K1 := Lib.hid k1
  have K2 := Lib.hid k2
  clear h hg0 hD k1 k2
  have w1 : IntKind.i64.wrap ((m : Int) - a) = (m : Int) - a := IntWalk.i64_in _ (by omega)
  have w2 : IntKind.i64.wrap ((b : Int) - m) = (b : Int) - m := IntWalk.i64_in _ (by omega)
  have t1 : ((m : Int) - a == 1) = false := by simp; omega
  have t2 : ((b : Int) - m == 1) = false := by simp; omega
  obtain ⟨md, hmd⟩ : ∃ md, (a + b) / 2 = md := ⟨_, rfl⟩
  have em : ((a : Int) + b) / 2 = (md : Int) := by omega
  obtain ⟨nn, hnn⟩ : ∃ nn, md + m = nn := ⟨_, rfl⟩
  have w3 : IntKind.i64.wrap ((md : Int) + m) = (nn : Int) := by rw [IntWalk.i64_in _ (by omega)]; omega
  obtain ⟨p, hp⟩ : ∃ p, nn - 1 = p := ⟨_, rfl⟩
  have w5 : IntKind.i64.wrap ((nn : Int) - 1) = (p : Int) := by rw [IntWalk.i64_in _ (by omega)]; omega
  obtain ⟨lo, r0, hcase⟩ : ∃ lo r0, (md < m ∧ lo = md + m - b ∧ r0 = md) ∨ (m ≤ md ∧ lo = a ∧ r0 = m) := by
    by_cases h : md < m
    · exact ⟨_, _, .inl ⟨h, rfl, rfl⟩⟩
    · exact ⟨_, _, .inr ⟨by omega, rfl, rfl⟩⟩
  have HCASE := Lib.hid hcase
  have HMD := Lib.hid hmd
  have HNN := Lib.hid hnn
  have HP := Lib.hid hp
  have hlo : lo ≤ r0 := by omega
  have hal : a ≤ lo := by omega
  have hr1 : r0 ≤ m := by omega
  have hr2 : r0 ≤ md := by omega
  have hpl : p < l.length + lo := by omega
  have hpr : r0 ≤ p + 1 := by omega
  have hmdl : md < b := by omega
  have hamd : a ≤ md := by omega
  have hlen : l.length < 1099511627776 := hl
  rcases hcase with ⟨c1, c2, c3⟩ | ⟨c1, c2, c3⟩
  ·
    have t3 : decide ((md : Int) < m) = true := by simp; omega
    have w4 : IntKind.i64.wrap ((nn : Int) - b) = (lo : Int) := by rw [IntWalk.i64_in _ (by omega)]; omega
    have C2 := Lib.hid c2
    have C3 := Lib.hid c3
    clear hmd hnn hp c2 c3
    go_enter Tryz.func117, Tryz.ntmps117
    go_wp2
    go_loopw [20, 21] (fun iv jv wr => Bis lo r0 (fun i j => (lo < i → ¬ cm (gt l (nn - i)) (gt l (i - 1)) < 0) ∧ (j < r0 → cm (gt l (p - j)) (gt l j) < 0)) w iv jv wr) (fun iv jv _ => (intOf jv).toNat - (intOf iv).toNat)
    case atStart => exact ⟨lo, r0, Nat.le_refl _, hlo, Nat.le_refl _, by first | rfl | rw [C2.out], by rw [C3.out], ⟨fun k => absurd k (Nat.lt_irrefl _), fun k => absurd k (Nat.lt_irrefl _)⟩, Kept.refl w⟩
    case round =>
      clear w1 w2 t1 t2 w3 w5 t3 w4
      obtain ⟨i, j, hi, hij, hj, rfl, rfl, hci, hkw⟩ := hrel
      have HCI := Lib.hid hci
      have HKW := Lib.hid hkw
      have HO := Lib.hid (H.out.kept hkw)
      clear hci hkw
      by_cases hlt : i < j
      ·
        obtain ⟨h, hh⟩ : ∃ h, (i + j) / 2 = h := ⟨_, rfl⟩
        have hm : ((i : Int) + j) / 2 = (h : Int) := by omega
        have hh1 : i ≤ h := by omega
        have hh2 : h < j := by omega
        clear hh
        obtain ⟨u, hu⟩ : ∃ u, p - h = u := ⟨_, rfl⟩
        have wu : IntKind.i64.wrap ((p : Int) - h) = (u : Int) := by rw [IntWalk.i64_in _ (by omega)]; omega
        have HU := Lib.hid hu
        have h1 : u < l.length := by omega
        have h2 : h < l.length := by omega
        clear hu
        have hA := atP HO.out h1
        have hB := atP HO.out h2
        obtain ⟨x, hx⟩ : ∃ x, gt l u = x := ⟨_, rfl⟩
        obtain ⟨y, hy⟩ : ∃ y, gt l h = y := ⟨_, rfl⟩
        rw [hx] at hA
        rw [hy] at hB
        obtain ⟨ca0, ca1⟩ := hA
        obtain ⟨cb0, cb1⟩ := hB
        have hgl := lt_of_cell ca0
        have dx := HD.out _ h1
        have dy := HD.out _ h2
        rw [hx] at dx
        rw [hy] at dy
        obtain ⟨z, hz⟩ : ∃ z, cm x y = z := ⟨_, rfl⟩
        have i1 : u < n := by have := HN.out; omega
        have i2 : h < n := by have := HN.out; omega
        have HC2 : Hid (∀ W, Kept wr W → Calls Tryz.prog cb (#[ptV x, ptV y] ++ caps) W (Gives (.int .i64 z) W)) := Lib.hid fun W hk => by rw [← hz]; exact HC.out x y W dx dy (grownBy_kept HG0.out (HKW.out.trans hk))
        have HX := Lib.hid hx
        have HY := Lib.hid hy
        have HZ := Lib.hid hz
        clear hx hy hz
        go_wp2
        refine region_class (fun Z => Kept wr Z) 12 (by kernel_rfl) (by kernel_rfl) (Kept.refl _).drew ?_
        simp only [List.take_succ_cons, List.take_zero, List.drop_succ_cons, List.drop_zero]
        refine wpQuiet_yield (.func (.func cb) #[] caps) (by rfl) (fun Z hZ => ?_) ?_
        ·
          go_simp
        simp only [Act.put, List.setIfInBounds_toArray, List.set_cons_zero, List.set_cons_succ]
        refine wpQuiet_yield (.slice (some ⟨g, 0, none⟩) n c) (by rfl) (fun Z hZ => ?_) ?_
        ·
          go_simp
        simp only [Act.put, List.setIfInBounds_toArray, List.set_cons_zero, List.set_cons_succ]
        refine wpQuiet_yield (.int .i64 p) (by rfl) (fun Z hZ => ?_) ?_
        ·
          go_simp
        simp only [Act.put, List.setIfInBounds_toArray, List.set_cons_zero, List.set_cons_succ]
        refine wpQuiet_yield (.int .i64 h) (by rfl) (fun Z hZ => ?_) ?_
        ·
          go_simp
        simp only [Act.put, List.setIfInBounds_toArray, List.set_cons_zero, List.set_cons_succ]
        refine wpQuiet_yield (.int .i64 u) (by rfl) (fun Z hZ => ?_) ?_
        ·
          go_simp
        simp only [Act.put, List.setIfInBounds_toArray, List.set_cons_zero, List.set_cons_succ]
        refine wpQuiet_yield (.pointer (some ⟨g, u * 2, none⟩)) (by rfl) (fun Z hZ => ?_) ?_
        ·
          go_simp
        simp only [Act.put, List.setIfInBounds_toArray, List.set_cons_zero, List.set_cons_succ]
        refine wpQuiet_yield (ptV x) (by rfl) (fun Z hZ => ?_) ?_
        ·
          have r0 := hZ.cell ca0
          have r1 := hZ.cell ca1
          have rb := lt_of_cell r0
          go_simp
        simp only [Act.put, List.setIfInBounds_toArray, List.set_cons_zero, List.set_cons_succ]
        refine wpQuiet_yield (.slice (some ⟨g, 0, none⟩) n c) (by rfl) (fun Z hZ => ?_) ?_
        ·
          go_simp
        simp only [Act.put, List.setIfInBounds_toArray, List.set_cons_zero, List.set_cons_succ]
        refine wpQuiet_yield (.int .i64 h) (by rfl) (fun Z hZ => ?_) ?_
        ·
          go_simp
        simp only [Act.put, List.setIfInBounds_toArray, List.set_cons_zero, List.set_cons_succ]
        refine wpQuiet_yield (.pointer (some ⟨g, h * 2, none⟩)) (by rfl) (fun Z hZ => ?_) ?_
        ·
          go_simp
        simp only [Act.put, List.setIfInBounds_toArray, List.set_cons_zero, List.set_cons_succ]
        refine wpQuiet_yield (ptV y) (by rfl) (fun Z hZ => ?_) ?_
        ·
          have r0 := hZ.cell cb0
          have r1 := hZ.cell cb1
          have rb := lt_of_cell r0
          go_simp
        simp only [Act.put, List.setIfInBounds_toArray, List.set_cons_zero, List.set_cons_succ]
        refine wpQuiet_yield (.int .i64 z) (by rfl) (fun Z hZ => ?_) ?_
        ·
          go_simp
          have hF := HC2.out Z hZ
          exact hF.mono fun e Z' h => ⟨h.1, hZ.trans h.2⟩
        simp only [Act.put, List.setIfInBounds_toArray, List.set_cons_zero, List.set_cons_succ]
        refine wpQuiet_nil ?_
        intro X1 hk
        have HKX1 := Lib.hid hk
        clear hk
        by_cases hz : z < 0
        ·
          have HZ0 := Lib.hid hz
          have hzd : decide (z < 0) = true := decide_eq_true hz
          clear hz
          go_wp2
          refine ⟨⟨i, h, by omega, by omega, by omega, rfl, rfl, ⟨fun h => by have := HCI.out.1 h; omega, fun _ => by rw [HU.out, HX.out, HY.out, HZ.out]; exact HZ0.out⟩, HKW.out.trans HKX1.out⟩, by simp [intOf]; omega⟩
        ·
          have HZ0 := Lib.hid hz
          have hzd : decide (z < 0) = false := decide_eq_false hz
          clear hz
          go_wp2
          refine ⟨⟨h + 1, j, by omega, by omega, by omega, by go_num, rfl, ⟨fun _ => by rw [show h + 1 - 1 = h by omega, show nn - (h + 1) = u by have := HU.out; have := HP.out; omega, HX.out, HY.out, HZ.out]; exact HZ0.out, fun h => by have := HCI.out.2 h; omega⟩, HKW.out.trans HKX1.out⟩, by simp [intOf]; omega⟩
      ·
        obtain rfl : i = j := by omega
        obtain ⟨t, ht⟩ : ∃ t, nn - i = t := ⟨_, rfl⟩
        have wt : IntKind.i64.wrap ((nn : Int) - i) = (t : Int) := by rw [IntWalk.i64_in _ (by have := HNN.out; omega)]; have := HNN.out; omega
        have HT := Lib.hid ht
        have b1 : a ≤ i := by omega
        have b7 : lo ≤ i := hi
        have b8 : i ≤ r0 := hj
        have b2 : i ≤ md := by omega
        have b3 : i ≤ m := by omega
        have b4 : m ≤ t := by have := HNN.out; omega
        have b5 : t ≤ b := by have := HCASE.out; have := HNN.out; omega
        have b6 : md ≤ t := by have := HNN.out; omega
        clear ht hi hij hj hlt
        have HSP : Hid (∀ c : List Pt, (∀ q, gt c q = rotF (gt l) i m t q) → Split (fun x y => cm x y < 0) c a i md t b) := Lib.hid fun c hc => by
          have e : md + m - i = t := by rw [HNN.out]; exact HT.out
          have := split_of hL HD.out (s := i) (lo := lo) (r0 := r0) ham hmb hb HMD.out.symm HCASE.out (by omega) (by omega) K1.out K2.out (fun h => by have := HCI.out.1 h; rw [← HNN.out] at this; omega) (fun h => by have := HCI.out.2 h; rw [← HP.out, ← HNN.out] at this; exact this) (fun q => by rw [e]; exact hc q)
          rw [e] at this
          exact this
        by_cases ga1 : i < m
        · by_cases ga2 : m < t
          ·
            have d1 : decide ((i : Int) < m) = true := by simp; omega
            have d2 : decide ((m : Int) < t) = true := by simp; omega
            go_wp2_with fail
            refine (rotateP_any l g c base n i m t _ _ HO.out ga1 ga2 (by omega) HLL.out).mono ?_
            rintro e x1 ⟨ca, rfl, he, hs, ho, hg⟩
            have HEA : Hid (Ed l a b ca) := Lib.hid (he.wide b1 b5)
            have HSPL := Lib.hid (HSP.out ca hs)
            have HOA := Lib.hid ho
            have HGA := Lib.hid ((grownBy_kept (grownBy_same w (some g)) HKW.out).trans hg)
            clear he hs ho hg HKW HO
            by_cases gb1 : a < i
            · by_cases gb2 : i < md
              ·
                have d3 : decide ((a : Int) < i) = true := by simp; omega
                have d4 : decide ((i : Int) < md) = true := by simp; omega
                go_wp2_with fail
                refine (HIH.out ca a i md _ HOA.out (HG0.out.trans HGA.out) (HEA.out.all HD.out) (by omega) (by omega) (by rw [HEA.out.len]; omega) (by rw [HEA.out.len]; exact HLL.out) HSPL.out.s1 HSPL.out.s2 (by omega)).mono ?_
                rintro e x2 ⟨cb2, rfl, he, hs, ho, hg⟩
                have HEB := Lib.hid he
                have HSB := Lib.hid hs
                have HOB := Lib.hid ho
                have HGB := Lib.hid (HGA.out.trans hg)
                clear he hs ho hg
                by_cases gc1 : md < t
                · by_cases gc2 : t < b
                  ·
                    have d5 : decide ((md : Int) < t) = true := by simp; omega
                    have d6 : decide ((t : Int) < b) = true := by simp; omega
                    go_wp2_with fail
                    refine (HIH.out cb2 md t b _ HOB.out (HG0.out.trans HGB.out) (HEB.out.all (HEA.out.all HD.out)) (by omega) (by omega) (by rw [HEB.out.len, HEA.out.len]; exact hb) (by rw [HEB.out.len, HEA.out.len]; exact HLL.out) (HSPL.out.s3.out HEB.out (.inr (Nat.le_refl _))) (HSPL.out.s4.out HEB.out (.inr (by omega))) (by omega)).mono ?_
                    rintro e x3 ⟨cc, rfl, he, hs, ho, hg⟩
                    have HEC := Lib.hid he
                    have HSC := Lib.hid hs
                    have HOC := Lib.hid ho
                    have HGC := Lib.hid (HGB.out.trans hg)
                    clear he hs ho hg
                    go_wp2
                    refine bodyPost_ret (results_none rfl _ _ _) rfl ⟨cc, rfl, (HEA.out.trans (HEB.out.wide (Nat.le_refl _) (by omega))).trans (HEC.out.wide (by omega) (Nat.le_refl _)), ?_, HOC.out, HGC.out⟩
                    exact Srt.glue (HSB.out.out HEC.out (.inl (Nat.le_refl _))) HSC.out (cross_ed (lt := fun x y => cm x y < 0) (by rw [HEA.out.len]; exact hb) HSPL.out.cr HEB.out HEC.out)
                  ·
                    have d5 : decide ((md : Int) < t) = true := by simp; omega
                    have d6 : decide ((t : Int) < b) = false := by simp; omega
                    have hs0 : Srt (fun x y => cm x y < 0) cb2 md b := by
                      obtain rfl : t = b := by omega
                      exact HSPL.out.s3.out HEB.out (.inr (Nat.le_refl _))
                    obtain ⟨cc, he, hs, ho, hg⟩ : ∃ cc, Ed cb2 md b cc ∧ Srt (fun x y => cm x y < 0) cc md b ∧ OwnP _ base (.slice (some ⟨g, 0, none⟩) n c) cc ∧ w.grownBy _ (some g) := ⟨cb2, .refl, hs0, HOB.out, HGB.out⟩
                    clear hs0
                    have HEC := Lib.hid he
                    have HSC := Lib.hid hs
                    have HOC := Lib.hid ho
                    have HGC := Lib.hid hg
                    clear he hs ho hg
                    go_wp2
                    refine bodyPost_ret (results_none rfl _ _ _) rfl ⟨cc, rfl, (HEA.out.trans (HEB.out.wide (Nat.le_refl _) (by omega))).trans (HEC.out.wide (by omega) (Nat.le_refl _)), ?_, HOC.out, HGC.out⟩
                    exact Srt.glue (HSB.out.out HEC.out (.inl (Nat.le_refl _))) HSC.out (cross_ed (lt := fun x y => cm x y < 0) (by rw [HEA.out.len]; exact hb) HSPL.out.cr HEB.out HEC.out)
                ·
                  have d5 : decide ((md : Int) < t) = false := by simp; omega
                  have hs0 : Srt (fun x y => cm x y < 0) cb2 md b := by
                    obtain rfl : md = t := by omega
                    exact HSPL.out.s4.out HEB.out (.inr (Nat.le_refl _))
                  obtain ⟨cc, he, hs, ho, hg⟩ : ∃ cc, Ed cb2 md b cc ∧ Srt (fun x y => cm x y < 0) cc md b ∧ OwnP _ base (.slice (some ⟨g, 0, none⟩) n c) cc ∧ w.grownBy _ (some g) := ⟨cb2, .refl, hs0, HOB.out, HGB.out⟩
                  clear hs0
                  have HEC := Lib.hid he
                  have HSC := Lib.hid hs
                  have HOC := Lib.hid ho
                  have HGC := Lib.hid hg
                  clear he hs ho hg
                  go_wp2
                  refine bodyPost_ret (results_none rfl _ _ _) rfl ⟨cc, rfl, (HEA.out.trans (HEB.out.wide (Nat.le_refl _) (by omega))).trans (HEC.out.wide (by omega) (Nat.le_refl _)), ?_, HOC.out, HGC.out⟩
                  exact Srt.glue (HSB.out.out HEC.out (.inl (Nat.le_refl _))) HSC.out (cross_ed (lt := fun x y => cm x y < 0) (by rw [HEA.out.len]; exact hb) HSPL.out.cr HEB.out HEC.out)
              ·
                have d3 : decide ((a : Int) < i) = true := by simp; omega
                have d4 : decide ((i : Int) < md) = false := by simp; omega
                have hs0 : Srt (fun x y => cm x y < 0) ca a md := by
                  obtain rfl : i = md := by omega
                  exact HSPL.out.s1
                obtain ⟨cb2, he, hs, ho, hg⟩ : ∃ cb2, Ed ca a md cb2 ∧ Srt (fun x y => cm x y < 0) cb2 a md ∧ OwnP _ base (.slice (some ⟨g, 0, none⟩) n c) cb2 ∧ w.grownBy _ (some g) := ⟨ca, .refl, hs0, HOA.out, HGA.out⟩
                clear hs0
                have HEB := Lib.hid he
                have HSB := Lib.hid hs
                have HOB := Lib.hid ho
                have HGB := Lib.hid hg
                clear he hs ho hg
                by_cases gc1 : md < t
                · by_cases gc2 : t < b
                  ·
                    have d5 : decide ((md : Int) < t) = true := by simp; omega
                    have d6 : decide ((t : Int) < b) = true := by simp; omega
                    go_wp2_with fail
                    refine (HIH.out cb2 md t b _ HOB.out (HG0.out.trans HGB.out) (HEB.out.all (HEA.out.all HD.out)) (by omega) (by omega) (by rw [HEB.out.len, HEA.out.len]; exact hb) (by rw [HEB.out.len, HEA.out.len]; exact HLL.out) (HSPL.out.s3.out HEB.out (.inr (Nat.le_refl _))) (HSPL.out.s4.out HEB.out (.inr (by omega))) (by omega)).mono ?_
                    rintro e x3 ⟨cc, rfl, he, hs, ho, hg⟩
                    have HEC := Lib.hid he
                    have HSC := Lib.hid hs
                    have HOC := Lib.hid ho
                    have HGC := Lib.hid (HGB.out.trans hg)
                    clear he hs ho hg
                    go_wp2
                    refine bodyPost_ret (results_none rfl _ _ _) rfl ⟨cc, rfl, (HEA.out.trans (HEB.out.wide (Nat.le_refl _) (by omega))).trans (HEC.out.wide (by omega) (Nat.le_refl _)), ?_, HOC.out, HGC.out⟩
                    exact Srt.glue (HSB.out.out HEC.out (.inl (Nat.le_refl _))) HSC.out (cross_ed (lt := fun x y => cm x y < 0) (by rw [HEA.out.len]; exact hb) HSPL.out.cr HEB.out HEC.out)
                  ·
                    have d5 : decide ((md : Int) < t) = true := by simp; omega
                    have d6 : decide ((t : Int) < b) = false := by simp; omega
                    have hs0 : Srt (fun x y => cm x y < 0) cb2 md b := by
                      obtain rfl : t = b := by omega
                      exact HSPL.out.s3.out HEB.out (.inr (Nat.le_refl _))
                    obtain ⟨cc, he, hs, ho, hg⟩ : ∃ cc, Ed cb2 md b cc ∧ Srt (fun x y => cm x y < 0) cc md b ∧ OwnP _ base (.slice (some ⟨g, 0, none⟩) n c) cc ∧ w.grownBy _ (some g) := ⟨cb2, .refl, hs0, HOB.out, HGB.out⟩
                    clear hs0
                    have HEC := Lib.hid he
                    have HSC := Lib.hid hs
                    have HOC := Lib.hid ho
                    have HGC := Lib.hid hg
                    clear he hs ho hg
                    go_wp2
                    refine bodyPost_ret (results_none rfl _ _ _) rfl ⟨cc, rfl, (HEA.out.trans (HEB.out.wide (Nat.le_refl _) (by omega))).trans (HEC.out.wide (by omega) (Nat.le_refl _)), ?_, HOC.out, HGC.out⟩
                    exact Srt.glue (HSB.out.out HEC.out (.inl (Nat.le_refl _))) HSC.out (cross_ed (lt := fun x y => cm x y < 0) (by rw [HEA.out.len]; exact hb) HSPL.out.cr HEB.out HEC.out)
                ·
                  have d5 : decide ((md : Int) < t) = false := by simp; omega
                  have hs0 : Srt (fun x y => cm x y < 0) cb2 md b := by
                    obtain rfl : md = t := by omega
                    exact HSPL.out.s4.out HEB.out (.inr (Nat.le_refl _))
                  obtain ⟨cc, he, hs, ho, hg⟩ : ∃ cc, Ed cb2 md b cc ∧ Srt (fun x y => cm x y < 0) cc md b ∧ OwnP _ base (.slice (some ⟨g, 0, none⟩) n c) cc ∧ w.grownBy _ (some g) := ⟨cb2, .refl, hs0, HOB.out, HGB.out⟩
                  clear hs0
                  have HEC := Lib.hid he
                  have HSC := Lib.hid hs
                  have HOC := Lib.hid ho
                  have HGC := Lib.hid hg
                  clear he hs ho hg
                  go_wp2
                  refine bodyPost_ret (results_none rfl _ _ _) rfl ⟨cc, rfl, (HEA.out.trans (HEB.out.wide (Nat.le_refl _) (by omega))).trans (HEC.out.wide (by omega) (Nat.le_refl _)), ?_, HOC.out, HGC.out⟩
                  exact Srt.glue (HSB.out.out HEC.out (.inl (Nat.le_refl _))) HSC.out (cross_ed (lt := fun x y => cm x y < 0) (by rw [HEA.out.len]; exact hb) HSPL.out.cr HEB.out HEC.out)
            ·
              have d3 : decide ((a : Int) < i) = false := by simp; omega
              have hs0 : Srt (fun x y => cm x y < 0) ca a md := by
                obtain rfl : a = i := by omega
                exact HSPL.out.s2
              obtain ⟨cb2, he, hs, ho, hg⟩ : ∃ cb2, Ed ca a md cb2 ∧ Srt (fun x y => cm x y < 0) cb2 a md ∧ OwnP _ base (.slice (some ⟨g, 0, none⟩) n c) cb2 ∧ w.grownBy _ (some g) := ⟨ca, .refl, hs0, HOA.out, HGA.out⟩
              clear hs0
              have HEB := Lib.hid he
              have HSB := Lib.hid hs
              have HOB := Lib.hid ho
              have HGB := Lib.hid hg
              clear he hs ho hg
              by_cases gc1 : md < t
              · by_cases gc2 : t < b
                ·
                  have d5 : decide ((md : Int) < t) = true := by simp; omega
                  have d6 : decide ((t : Int) < b) = true := by simp; omega
                  go_wp2_with fail
                  refine (HIH.out cb2 md t b _ HOB.out (HG0.out.trans HGB.out) (HEB.out.all (HEA.out.all HD.out)) (by omega) (by omega) (by rw [HEB.out.len, HEA.out.len]; exact hb) (by rw [HEB.out.len, HEA.out.len]; exact HLL.out) (HSPL.out.s3.out HEB.out (.inr (Nat.le_refl _))) (HSPL.out.s4.out HEB.out (.inr (by omega))) (by omega)).mono ?_
                  rintro e x3 ⟨cc, rfl, he, hs, ho, hg⟩
                  have HEC := Lib.hid he
                  have HSC := Lib.hid hs
                  have HOC := Lib.hid ho
                  have HGC := Lib.hid (HGB.out.trans hg)
                  clear he hs ho hg
                  go_wp2
                  refine bodyPost_ret (results_none rfl _ _ _) rfl ⟨cc, rfl, (HEA.out.trans (HEB.out.wide (Nat.le_refl _) (by omega))).trans (HEC.out.wide (by omega) (Nat.le_refl _)), ?_, HOC.out, HGC.out⟩
                  exact Srt.glue (HSB.out.out HEC.out (.inl (Nat.le_refl _))) HSC.out (cross_ed (lt := fun x y => cm x y < 0) (by rw [HEA.out.len]; exact hb) HSPL.out.cr HEB.out HEC.out)
                ·
                  have d5 : decide ((md : Int) < t) = true := by simp; omega
                  have d6 : decide ((t : Int) < b) = false := by simp; omega
                  have hs0 : Srt (fun x y => cm x y < 0) cb2 md b := by
                    obtain rfl : t = b := by omega
                    exact HSPL.out.s3.out HEB.out (.inr (Nat.le_refl _))
                  obtain ⟨cc, he, hs, ho, hg⟩ : ∃ cc, Ed cb2 md b cc ∧ Srt (fun x y => cm x y < 0) cc md b ∧ OwnP _ base (.slice (some ⟨g, 0, none⟩) n c) cc ∧ w.grownBy _ (some g) := ⟨cb2, .refl, hs0, HOB.out, HGB.out⟩
                  clear hs0
                  have HEC := Lib.hid he
                  have HSC := Lib.hid hs
                  have HOC := Lib.hid ho
                  have HGC := Lib.hid hg
                  clear he hs ho hg
                  go_wp2
                  refine bodyPost_ret (results_none rfl _ _ _) rfl ⟨cc, rfl, (HEA.out.trans (HEB.out.wide (Nat.le_refl _) (by omega))).trans (HEC.out.wide (by omega) (Nat.le_refl _)), ?_, HOC.out, HGC.out⟩
                  exact Srt.glue (HSB.out.out HEC.out (.inl (Nat.le_refl _))) HSC.out (cross_ed (lt := fun x y => cm x y < 0) (by rw [HEA.out.len]; exact hb) HSPL.out.cr HEB.out HEC.out)
              ·
                have d5 : decide ((md : Int) < t) = false := by simp; omega
                have hs0 : Srt (fun x y => cm x y < 0) cb2 md b := by
                  obtain rfl : md = t := by omega
                  exact HSPL.out.s4.out HEB.out (.inr (Nat.le_refl _))
                obtain ⟨cc, he, hs, ho, hg⟩ : ∃ cc, Ed cb2 md b cc ∧ Srt (fun x y => cm x y < 0) cc md b ∧ OwnP _ base (.slice (some ⟨g, 0, none⟩) n c) cc ∧ w.grownBy _ (some g) := ⟨cb2, .refl, hs0, HOB.out, HGB.out⟩
                clear hs0
                have HEC := Lib.hid he
                have HSC := Lib.hid hs
                have HOC := Lib.hid ho
                have HGC := Lib.hid hg
                clear he hs ho hg
                go_wp2
                refine bodyPost_ret (results_none rfl _ _ _) rfl ⟨cc, rfl, (HEA.out.trans (HEB.out.wide (Nat.le_refl _) (by omega))).trans (HEC.out.wide (by omega) (Nat.le_refl _)), ?_, HOC.out, HGC.out⟩
                exact Srt.glue (HSB.out.out HEC.out (.inl (Nat.le_refl _))) HSC.out (cross_ed (lt := fun x y => cm x y < 0) (by rw [HEA.out.len]; exact hb) HSPL.out.cr HEB.out HEC.out)
          ·
            have d1 : decide ((i : Int) < m) = true := by simp; omega
            have d2 : decide ((m : Int) < t) = false := by simp; omega
            obtain ⟨ca, he, hs, ho, hg⟩ : ∃ ca, Ed l a b ca ∧ Split (fun x y => cm x y < 0) ca a i md t b ∧ OwnP wr base (.slice (some ⟨g, 0, none⟩) n c) ca ∧ w.grownBy wr (some g) := ⟨l, .refl, HSP.out l (rot_none b3 b4 (by omega)), HO.out, grownBy_kept (grownBy_same w (some g)) HKW.out⟩
            have HEA := Lib.hid he
            have HSPL := Lib.hid hs
            have HOA := Lib.hid ho
            have HGA := Lib.hid hg
            clear he hs ho hg HKW HO
            by_cases gb1 : a < i
            · by_cases gb2 : i < md
              ·
                have d3 : decide ((a : Int) < i) = true := by simp; omega
                have d4 : decide ((i : Int) < md) = true := by simp; omega
                go_wp2_with fail
                refine (HIH.out ca a i md _ HOA.out (HG0.out.trans HGA.out) (HEA.out.all HD.out) (by omega) (by omega) (by rw [HEA.out.len]; omega) (by rw [HEA.out.len]; exact HLL.out) HSPL.out.s1 HSPL.out.s2 (by omega)).mono ?_
                rintro e x2 ⟨cb2, rfl, he, hs, ho, hg⟩
                have HEB := Lib.hid he
                have HSB := Lib.hid hs
                have HOB := Lib.hid ho
                have HGB := Lib.hid (HGA.out.trans hg)
                clear he hs ho hg
                by_cases gc1 : md < t
                · by_cases gc2 : t < b
                  ·
                    have d5 : decide ((md : Int) < t) = true := by simp; omega
                    have d6 : decide ((t : Int) < b) = true := by simp; omega
                    go_wp2_with fail
                    refine (HIH.out cb2 md t b _ HOB.out (HG0.out.trans HGB.out) (HEB.out.all (HEA.out.all HD.out)) (by omega) (by omega) (by rw [HEB.out.len, HEA.out.len]; exact hb) (by rw [HEB.out.len, HEA.out.len]; exact HLL.out) (HSPL.out.s3.out HEB.out (.inr (Nat.le_refl _))) (HSPL.out.s4.out HEB.out (.inr (by omega))) (by omega)).mono ?_
                    rintro e x3 ⟨cc, rfl, he, hs, ho, hg⟩
                    have HEC := Lib.hid he
                    have HSC := Lib.hid hs
                    have HOC := Lib.hid ho
                    have HGC := Lib.hid (HGB.out.trans hg)
                    clear he hs ho hg
                    go_wp2
                    refine bodyPost_ret (results_none rfl _ _ _) rfl ⟨cc, rfl, (HEA.out.trans (HEB.out.wide (Nat.le_refl _) (by omega))).trans (HEC.out.wide (by omega) (Nat.le_refl _)), ?_, HOC.out, HGC.out⟩
                    exact Srt.glue (HSB.out.out HEC.out (.inl (Nat.le_refl _))) HSC.out (cross_ed (lt := fun x y => cm x y < 0) (by rw [HEA.out.len]; exact hb) HSPL.out.cr HEB.out HEC.out)
                  ·
                    have d5 : decide ((md : Int) < t) = true := by simp; omega
                    have d6 : decide ((t : Int) < b) = false := by simp; omega
                    have hs0 : Srt (fun x y => cm x y < 0) cb2 md b := by
                      obtain rfl : t = b := by omega
                      exact HSPL.out.s3.out HEB.out (.inr (Nat.le_refl _))
                    obtain ⟨cc, he, hs, ho, hg⟩ : ∃ cc, Ed cb2 md b cc ∧ Srt (fun x y => cm x y < 0) cc md b ∧ OwnP _ base (.slice (some ⟨g, 0, none⟩) n c) cc ∧ w.grownBy _ (some g) := ⟨cb2, .refl, hs0, HOB.out, HGB.out⟩
                    clear hs0
                    have HEC := Lib.hid he
                    have HSC := Lib.hid hs
                    have HOC := Lib.hid ho
                    have HGC := Lib.hid hg
                    clear he hs ho hg
                    go_wp2
                    refine bodyPost_ret (results_none rfl _ _ _) rfl ⟨cc, rfl, (HEA.out.trans (HEB.out.wide (Nat.le_refl _) (by omega))).trans (HEC.out.wide (by omega) (Nat.le_refl _)), ?_, HOC.out, HGC.out⟩
                    exact Srt.glue (HSB.out.out HEC.out (.inl (Nat.le_refl _))) HSC.out (cross_ed (lt := fun x y => cm x y < 0) (by rw [HEA.out.len]; exact hb) HSPL.out.cr HEB.out HEC.out)
                ·
                  have d5 : decide ((md : Int) < t) = false := by simp; omega
                  have hs0 : Srt (fun x y => cm x y < 0) cb2 md b := by
                    obtain rfl : md = t := by omega
                    exact HSPL.out.s4.out HEB.out (.inr (Nat.le_refl _))
                  obtain ⟨cc, he, hs, ho, hg⟩ : ∃ cc, Ed cb2 md b cc ∧ Srt (fun x y => cm x y < 0) cc md b ∧ OwnP _ base (.slice (some ⟨g, 0, none⟩) n c) cc ∧ w.grownBy _ (some g) := ⟨cb2, .refl, hs0, HOB.out, HGB.out⟩
                  clear hs0
                  have HEC := Lib.hid he
                  have HSC := Lib.hid hs
                  have HOC := Lib.hid ho
                  have HGC := Lib.hid hg
                  clear he hs ho hg
                  go_wp2
                  refine bodyPost_ret (results_none rfl _ _ _) rfl ⟨cc, rfl, (HEA.out.trans (HEB.out.wide (Nat.le_refl _) (by omega))).trans (HEC.out.wide (by omega) (Nat.le_refl _)), ?_, HOC.out, HGC.out⟩
                  exact Srt.glue (HSB.out.out HEC.out (.inl (Nat.le_refl _))) HSC.out (cross_ed (lt := fun x y => cm x y < 0) (by rw [HEA.out.len]; exact hb) HSPL.out.cr HEB.out HEC.out)
              ·
                have d3 : decide ((a : Int) < i) = true := by simp; omega
                have d4 : decide ((i : Int) < md) = false := by simp; omega
                have hs0 : Srt (fun x y => cm x y < 0) ca a md := by
                  obtain rfl : i = md := by omega
                  exact HSPL.out.s1
                obtain ⟨cb2, he, hs, ho, hg⟩ : ∃ cb2, Ed ca a md cb2 ∧ Srt (fun x y => cm x y < 0) cb2 a md ∧ OwnP _ base (.slice (some ⟨g, 0, none⟩) n c) cb2 ∧ w.grownBy _ (some g) := ⟨ca, .refl, hs0, HOA.out, HGA.out⟩
                clear hs0
                have HEB := Lib.hid he
                have HSB := Lib.hid hs
                have HOB := Lib.hid ho
                have HGB := Lib.hid hg
                clear he hs ho hg
                by_cases gc1 : md < t
                · by_cases gc2 : t < b
                  ·
                    have d5 : decide ((md : Int) < t) = true := by simp; omega
                    have d6 : decide ((t : Int) < b) = true := by simp; omega
                    go_wp2_with fail
                    refine (HIH.out cb2 md t b _ HOB.out (HG0.out.trans HGB.out) (HEB.out.all (HEA.out.all HD.out)) (by omega) (by omega) (by rw [HEB.out.len, HEA.out.len]; exact hb) (by rw [HEB.out.len, HEA.out.len]; exact HLL.out) (HSPL.out.s3.out HEB.out (.inr (Nat.le_refl _))) (HSPL.out.s4.out HEB.out (.inr (by omega))) (by omega)).mono ?_
                    rintro e x3 ⟨cc, rfl, he, hs, ho, hg⟩
                    have HEC := Lib.hid he
                    have HSC := Lib.hid hs
                    have HOC := Lib.hid ho
                    have HGC := Lib.hid (HGB.out.trans hg)
                    clear he hs ho hg
                    go_wp2
                    refine bodyPost_ret (results_none rfl _ _ _) rfl ⟨cc, rfl, (HEA.out.trans (HEB.out.wide (Nat.le_refl _) (by omega))).trans (HEC.out.wide (by omega) (Nat.le_refl _)), ?_, HOC.out, HGC.out⟩
                    exact Srt.glue (HSB.out.out HEC.out (.inl (Nat.le_refl _))) HSC.out (cross_ed (lt := fun x y => cm x y < 0) (by rw [HEA.out.len]; exact hb) HSPL.out.cr HEB.out HEC.out)
                  ·
                    have d5 : decide ((md : Int) < t) = true := by simp; omega
                    have d6 : decide ((t : Int) < b) = false := by simp; omega
                    have hs0 : Srt (fun x y => cm x y < 0) cb2 md b := by
                      obtain rfl : t = b := by omega
                      exact HSPL.out.s3.out HEB.out (.inr (Nat.le_refl _))
                    obtain ⟨cc, he, hs, ho, hg⟩ : ∃ cc, Ed cb2 md b cc ∧ Srt (fun x y => cm x y < 0) cc md b ∧ OwnP _ base (.slice (some ⟨g, 0, none⟩) n c) cc ∧ w.grownBy _ (some g) := ⟨cb2, .refl, hs0, HOB.out, HGB.out⟩
                    clear hs0
                    have HEC := Lib.hid he
                    have HSC := Lib.hid hs
                    have HOC := Lib.hid ho
                    have HGC := Lib.hid hg
                    clear he hs ho hg
                    go_wp2
                    refine bodyPost_ret (results_none rfl _ _ _) rfl ⟨cc, rfl, (HEA.out.trans (HEB.out.wide (Nat.le_refl _) (by omega))).trans (HEC.out.wide (by omega) (Nat.le_refl _)), ?_, HOC.out, HGC.out⟩
                    exact Srt.glue (HSB.out.out HEC.out (.inl (Nat.le_refl _))) HSC.out (cross_ed (lt := fun x y => cm x y < 0) (by rw [HEA.out.len]; exact hb) HSPL.out.cr HEB.out HEC.out)
                ·
                  have d5 : decide ((md : Int) < t) = false := by simp; omega
                  have hs0 : Srt (fun x y => cm x y < 0) cb2 md b := by
                    obtain rfl : md = t := by omega
                    exact HSPL.out.s4.out HEB.out (.inr (Nat.le_refl _))
                  obtain ⟨cc, he, hs, ho, hg⟩ : ∃ cc, Ed cb2 md b cc ∧ Srt (fun x y => cm x y < 0) cc md b ∧ OwnP _ base (.slice (some ⟨g, 0, none⟩) n c) cc ∧ w.grownBy _ (some g) := ⟨cb2, .refl, hs0, HOB.out, HGB.out⟩
                  clear hs0
                  have HEC := Lib.hid he
                  have HSC := Lib.hid hs
                  have HOC := Lib.hid ho
                  have HGC := Lib.hid hg
                  clear he hs ho hg
                  go_wp2
                  refine bodyPost_ret (results_none rfl _ _ _) rfl ⟨cc, rfl, (HEA.out.trans (HEB.out.wide (Nat.le_refl _) (by omega))).trans (HEC.out.wide (by omega) (Nat.le_refl _)), ?_, HOC.out, HGC.out⟩
                  exact Srt.glue (HSB.out.out HEC.out (.inl (Nat.le_refl _))) HSC.out (cross_ed (lt := fun x y => cm x y < 0) (by rw [HEA.out.len]; exact hb) HSPL.out.cr HEB.out HEC.out)
            ·
              have d3 : decide ((a : Int) < i) = false := by simp; omega
              have hs0 : Srt (fun x y => cm x y < 0) ca a md := by
                obtain rfl : a = i := by omega
                exact HSPL.out.s2
              obtain ⟨cb2, he, hs, ho, hg⟩ : ∃ cb2, Ed ca a md cb2 ∧ Srt (fun x y => cm x y < 0) cb2 a md ∧ OwnP _ base (.slice (some ⟨g, 0, none⟩) n c) cb2 ∧ w.grownBy _ (some g) := ⟨ca, .refl, hs0, HOA.out, HGA.out⟩
              clear hs0
              have HEB := Lib.hid he
              have HSB := Lib.hid hs
              have HOB := Lib.hid ho
              have HGB := Lib.hid hg
              clear he hs ho hg
              by_cases gc1 : md < t
              · by_cases gc2 : t < b
                ·
                  have d5 : decide ((md : Int) < t) = true := by simp; omega
                  have d6 : decide ((t : Int) < b) = true := by simp; omega
                  go_wp2_with fail
                  refine (HIH.out cb2 md t b _ HOB.out (HG0.out.trans HGB.out) (HEB.out.all (HEA.out.all HD.out)) (by omega) (by omega) (by rw [HEB.out.len, HEA.out.len]; exact hb) (by rw [HEB.out.len, HEA.out.len]; exact HLL.out) (HSPL.out.s3.out HEB.out (.inr (Nat.le_refl _))) (HSPL.out.s4.out HEB.out (.inr (by omega))) (by omega)).mono ?_
                  rintro e x3 ⟨cc, rfl, he, hs, ho, hg⟩
                  have HEC := Lib.hid he
                  have HSC := Lib.hid hs
                  have HOC := Lib.hid ho
                  have HGC := Lib.hid (HGB.out.trans hg)
                  clear he hs ho hg
                  go_wp2
                  refine bodyPost_ret (results_none rfl _ _ _) rfl ⟨cc, rfl, (HEA.out.trans (HEB.out.wide (Nat.le_refl _) (by omega))).trans (HEC.out.wide (by omega) (Nat.le_refl _)), ?_, HOC.out, HGC.out⟩
                  exact Srt.glue (HSB.out.out HEC.out (.inl (Nat.le_refl _))) HSC.out (cross_ed (lt := fun x y => cm x y < 0) (by rw [HEA.out.len]; exact hb) HSPL.out.cr HEB.out HEC.out)
                ·
                  have d5 : decide ((md : Int) < t) = true := by simp; omega
                  have d6 : decide ((t : Int) < b) = false := by simp; omega
                  have hs0 : Srt (fun x y => cm x y < 0) cb2 md b := by
                    obtain rfl : t = b := by omega
                    exact HSPL.out.s3.out HEB.out (.inr (Nat.le_refl _))
                  obtain ⟨cc, he, hs, ho, hg⟩ : ∃ cc, Ed cb2 md b cc ∧ Srt (fun x y => cm x y < 0) cc md b ∧ OwnP _ base (.slice (some ⟨g, 0, none⟩) n c) cc ∧ w.grownBy _ (some g) := ⟨cb2, .refl, hs0, HOB.out, HGB.out⟩
                  clear hs0
                  have HEC := Lib.hid he
                  have HSC := Lib.hid hs
                  have HOC := Lib.hid ho
                  have HGC := Lib.hid hg
                  clear he hs ho hg
                  go_wp2
                  refine bodyPost_ret (results_none rfl _ _ _) rfl ⟨cc, rfl, (HEA.out.trans (HEB.out.wide (Nat.le_refl _) (by omega))).trans (HEC.out.wide (by omega) (Nat.le_refl _)), ?_, HOC.out, HGC.out⟩
                  exact Srt.glue (HSB.out.out HEC.out (.inl (Nat.le_refl _))) HSC.out (cross_ed (lt := fun x y => cm x y < 0) (by rw [HEA.out.len]; exact hb) HSPL.out.cr HEB.out HEC.out)
              ·
                have d5 : decide ((md : Int) < t) = false := by simp; omega
                have hs0 : Srt (fun x y => cm x y < 0) cb2 md b := by
                  obtain rfl : md = t := by omega
                  exact HSPL.out.s4.out HEB.out (.inr (Nat.le_refl _))
                obtain ⟨cc, he, hs, ho, hg⟩ : ∃ cc, Ed cb2 md b cc ∧ Srt (fun x y => cm x y < 0) cc md b ∧ OwnP _ base (.slice (some ⟨g, 0, none⟩) n c) cc ∧ w.grownBy _ (some g) := ⟨cb2, .refl, hs0, HOB.out, HGB.out⟩
                clear hs0
                have HEC := Lib.hid he
                have HSC := Lib.hid hs
                have HOC := Lib.hid ho
                have HGC := Lib.hid hg
                clear he hs ho hg
                go_wp2
                refine bodyPost_ret (results_none rfl _ _ _) rfl ⟨cc, rfl, (HEA.out.trans (HEB.out.wide (Nat.le_refl _) (by omega))).trans (HEC.out.wide (by omega) (Nat.le_refl _)), ?_, HOC.out, HGC.out⟩
                exact Srt.glue (HSB.out.out HEC.out (.inl (Nat.le_refl _))) HSC.out (cross_ed (lt := fun x y => cm x y < 0) (by rw [HEA.out.len]; exact hb) HSPL.out.cr HEB.out HEC.out)
        ·
          have d1 : decide ((i : Int) < m) = false := by simp; omega
          obtain ⟨ca, he, hs, ho, hg⟩ : ∃ ca, Ed l a b ca ∧ Split (fun x y => cm x y < 0) ca a i md t b ∧ OwnP wr base (.slice (some ⟨g, 0, none⟩) n c) ca ∧ w.grownBy wr (some g) := ⟨l, .refl, HSP.out l (rot_none b3 b4 (by omega)), HO.out, grownBy_kept (grownBy_same w (some g)) HKW.out⟩
          have HEA := Lib.hid he
          have HSPL := Lib.hid hs
          have HOA := Lib.hid ho
          have HGA := Lib.hid hg
          clear he hs ho hg HKW HO
          by_cases gb1 : a < i
          · by_cases gb2 : i < md
            ·
              have d3 : decide ((a : Int) < i) = true := by simp; omega
              have d4 : decide ((i : Int) < md) = true := by simp; omega
              go_wp2_with fail
              refine (HIH.out ca a i md _ HOA.out (HG0.out.trans HGA.out) (HEA.out.all HD.out) (by omega) (by omega) (by rw [HEA.out.len]; omega) (by rw [HEA.out.len]; exact HLL.out) HSPL.out.s1 HSPL.out.s2 (by omega)).mono ?_
              rintro e x2 ⟨cb2, rfl, he, hs, ho, hg⟩
              have HEB := Lib.hid he
              have HSB := Lib.hid hs
              have HOB := Lib.hid ho
              have HGB := Lib.hid (HGA.out.trans hg)
              clear he hs ho hg
              by_cases gc1 : md < t
              · by_cases gc2 : t < b
                ·
                  have d5 : decide ((md : Int) < t) = true := by simp; omega
                  have d6 : decide ((t : Int) < b) = true := by simp; omega
                  go_wp2_with fail
                  refine (HIH.out cb2 md t b _ HOB.out (HG0.out.trans HGB.out) (HEB.out.all (HEA.out.all HD.out)) (by omega) (by omega) (by rw [HEB.out.len, HEA.out.len]; exact hb) (by rw [HEB.out.len, HEA.out.len]; exact HLL.out) (HSPL.out.s3.out HEB.out (.inr (Nat.le_refl _))) (HSPL.out.s4.out HEB.out (.inr (by omega))) (by omega)).mono ?_
                  rintro e x3 ⟨cc, rfl, he, hs, ho, hg⟩
                  have HEC := Lib.hid he
                  have HSC := Lib.hid hs
                  have HOC := Lib.hid ho
                  have HGC := Lib.hid (HGB.out.trans hg)
                  clear he hs ho hg
                  go_wp2
                  refine bodyPost_ret (results_none rfl _ _ _) rfl ⟨cc, rfl, (HEA.out.trans (HEB.out.wide (Nat.le_refl _) (by omega))).trans (HEC.out.wide (by omega) (Nat.le_refl _)), ?_, HOC.out, HGC.out⟩
                  exact Srt.glue (HSB.out.out HEC.out (.inl (Nat.le_refl _))) HSC.out (cross_ed (lt := fun x y => cm x y < 0) (by rw [HEA.out.len]; exact hb) HSPL.out.cr HEB.out HEC.out)
                ·
                  have d5 : decide ((md : Int) < t) = true := by simp; omega
                  have d6 : decide ((t : Int) < b) = false := by simp; omega
                  have hs0 : Srt (fun x y => cm x y < 0) cb2 md b := by
                    obtain rfl : t = b := by omega
                    exact HSPL.out.s3.out HEB.out (.inr (Nat.le_refl _))
                  obtain ⟨cc, he, hs, ho, hg⟩ : ∃ cc, Ed cb2 md b cc ∧ Srt (fun x y => cm x y < 0) cc md b ∧ OwnP _ base (.slice (some ⟨g, 0, none⟩) n c) cc ∧ w.grownBy _ (some g) := ⟨cb2, .refl, hs0, HOB.out, HGB.out⟩
                  clear hs0
                  have HEC := Lib.hid he
                  have HSC := Lib.hid hs
                  have HOC := Lib.hid ho
                  have HGC := Lib.hid hg
                  clear he hs ho hg
                  go_wp2
                  refine bodyPost_ret (results_none rfl _ _ _) rfl ⟨cc, rfl, (HEA.out.trans (HEB.out.wide (Nat.le_refl _) (by omega))).trans (HEC.out.wide (by omega) (Nat.le_refl _)), ?_, HOC.out, HGC.out⟩
                  exact Srt.glue (HSB.out.out HEC.out (.inl (Nat.le_refl _))) HSC.out (cross_ed (lt := fun x y => cm x y < 0) (by rw [HEA.out.len]; exact hb) HSPL.out.cr HEB.out HEC.out)
              ·
                have d5 : decide ((md : Int) < t) = false := by simp; omega
                have hs0 : Srt (fun x y => cm x y < 0) cb2 md b := by
                  obtain rfl : md = t := by omega
                  exact HSPL.out.s4.out HEB.out (.inr (Nat.le_refl _))
                obtain ⟨cc, he, hs, ho, hg⟩ : ∃ cc, Ed cb2 md b cc ∧ Srt (fun x y => cm x y < 0) cc md b ∧ OwnP _ base (.slice (some ⟨g, 0, none⟩) n c) cc ∧ w.grownBy _ (some g) := ⟨cb2, .refl, hs0, HOB.out, HGB.out⟩
                clear hs0
                have HEC := Lib.hid he
                have HSC := Lib.hid hs
                have HOC := Lib.hid ho
                have HGC := Lib.hid hg
                clear he hs ho hg
                go_wp2
                refine bodyPost_ret (results_none rfl _ _ _) rfl ⟨cc, rfl, (HEA.out.trans (HEB.out.wide (Nat.le_refl _) (by omega))).trans (HEC.out.wide (by omega) (Nat.le_refl _)), ?_, HOC.out, HGC.out⟩
                exact Srt.glue (HSB.out.out HEC.out (.inl (Nat.le_refl _))) HSC.out (cross_ed (lt := fun x y => cm x y < 0) (by rw [HEA.out.len]; exact hb) HSPL.out.cr HEB.out HEC.out)
            ·
              have d3 : decide ((a : Int) < i) = true := by simp; omega
              have d4 : decide ((i : Int) < md) = false := by simp; omega
              have hs0 : Srt (fun x y => cm x y < 0) ca a md := by
                obtain rfl : i = md := by omega
                exact HSPL.out.s1
              obtain ⟨cb2, he, hs, ho, hg⟩ : ∃ cb2, Ed ca a md cb2 ∧ Srt (fun x y => cm x y < 0) cb2 a md ∧ OwnP _ base (.slice (some ⟨g, 0, none⟩) n c) cb2 ∧ w.grownBy _ (some g) := ⟨ca, .refl, hs0, HOA.out, HGA.out⟩
              clear hs0
              have HEB := Lib.hid he
              have HSB := Lib.hid hs
              have HOB := Lib.hid ho
              have HGB := Lib.hid hg
              clear he hs ho hg
              by_cases gc1 : md < t
              · by_cases gc2 : t < b
                ·
                  have d5 : decide ((md : Int) < t) = true := by simp; omega
                  have d6 : decide ((t : Int) < b) = true := by simp; omega
                  go_wp2_with fail
                  refine (HIH.out cb2 md t b _ HOB.out (HG0.out.trans HGB.out) (HEB.out.all (HEA.out.all HD.out)) (by omega) (by omega) (by rw [HEB.out.len, HEA.out.len]; exact hb) (by rw [HEB.out.len, HEA.out.len]; exact HLL.out) (HSPL.out.s3.out HEB.out (.inr (Nat.le_refl _))) (HSPL.out.s4.out HEB.out (.inr (by omega))) (by omega)).mono ?_
                  rintro e x3 ⟨cc, rfl, he, hs, ho, hg⟩
                  have HEC := Lib.hid he
                  have HSC := Lib.hid hs
                  have HOC := Lib.hid ho
                  have HGC := Lib.hid (HGB.out.trans hg)
                  clear he hs ho hg
                  go_wp2
                  refine bodyPost_ret (results_none rfl _ _ _) rfl ⟨cc, rfl, (HEA.out.trans (HEB.out.wide (Nat.le_refl _) (by omega))).trans (HEC.out.wide (by omega) (Nat.le_refl _)), ?_, HOC.out, HGC.out⟩
                  exact Srt.glue (HSB.out.out HEC.out (.inl (Nat.le_refl _))) HSC.out (cross_ed (lt := fun x y => cm x y < 0) (by rw [HEA.out.len]; exact hb) HSPL.out.cr HEB.out HEC.out)
                ·
                  have d5 : decide ((md : Int) < t) = true := by simp; omega
                  have d6 : decide ((t : Int) < b) = false := by simp; omega
                  have hs0 : Srt (fun x y => cm x y < 0) cb2 md b := by
                    obtain rfl : t = b := by omega
                    exact HSPL.out.s3.out HEB.out (.inr (Nat.le_refl _))
                  obtain ⟨cc, he, hs, ho, hg⟩ : ∃ cc, Ed cb2 md b cc ∧ Srt (fun x y => cm x y < 0) cc md b ∧ OwnP _ base (.slice (some ⟨g, 0, none⟩) n c) cc ∧ w.grownBy _ (some g) := ⟨cb2, .refl, hs0, HOB.out, HGB.out⟩
                  clear hs0
                  have HEC := Lib.hid he
                  have HSC := Lib.hid hs
                  have HOC := Lib.hid ho
                  have HGC := Lib.hid hg
                  clear he hs ho hg
                  go_wp2
                  refine bodyPost_ret (results_none rfl _ _ _) rfl ⟨cc, rfl, (HEA.out.trans (HEB.out.wide (Nat.le_refl _) (by omega))).trans (HEC.out.wide (by omega) (Nat.le_refl _)), ?_, HOC.out, HGC.out⟩
                  exact Srt.glue (HSB.out.out HEC.out (.inl (Nat.le_refl _))) HSC.out (cross_ed (lt := fun x y => cm x y < 0) (by rw [HEA.out.len]; exact hb) HSPL.out.cr HEB.out HEC.out)
              ·
                have d5 : decide ((md : Int) < t) = false := by simp; omega
                have hs0 : Srt (fun x y => cm x y < 0) cb2 md b := by
                  obtain rfl : md = t := by omega
                  exact HSPL.out.s4.out HEB.out (.inr (Nat.le_refl _))
                obtain ⟨cc, he, hs, ho, hg⟩ : ∃ cc, Ed cb2 md b cc ∧ Srt (fun x y => cm x y < 0) cc md b ∧ OwnP _ base (.slice (some ⟨g, 0, none⟩) n c) cc ∧ w.grownBy _ (some g) := ⟨cb2, .refl, hs0, HOB.out, HGB.out⟩
                clear hs0
                have HEC := Lib.hid he
                have HSC := Lib.hid hs
                have HOC := Lib.hid ho
                have HGC := Lib.hid hg
                clear he hs ho hg
                go_wp2
                refine bodyPost_ret (results_none rfl _ _ _) rfl ⟨cc, rfl, (HEA.out.trans (HEB.out.wide (Nat.le_refl _) (by omega))).trans (HEC.out.wide (by omega) (Nat.le_refl _)), ?_, HOC.out, HGC.out⟩
                exact Srt.glue (HSB.out.out HEC.out (.inl (Nat.le_refl _))) HSC.out (cross_ed (lt := fun x y => cm x y < 0) (by rw [HEA.out.len]; exact hb) HSPL.out.cr HEB.out HEC.out)
          ·
            have d3 : decide ((a : Int) < i) = false := by simp; omega
            have hs0 : Srt (fun x y => cm x y < 0) ca a md := by
              obtain rfl : a = i := by omega
              exact HSPL.out.s2
            obtain ⟨cb2, he, hs, ho, hg⟩ : ∃ cb2, Ed ca a md cb2 ∧ Srt (fun x y => cm x y < 0) cb2 a md ∧ OwnP _ base (.slice (some ⟨g, 0, none⟩) n c) cb2 ∧ w.grownBy _ (some g) := ⟨ca, .refl, hs0, HOA.out, HGA.out⟩
            clear hs0
            have HEB := Lib.hid he
            have HSB := Lib.hid hs
            have HOB := Lib.hid ho
            have HGB := Lib.hid hg
            clear he hs ho hg
            by_cases gc1 : md < t
            · by_cases gc2 : t < b
              ·
                have d5 : decide ((md : Int) < t) = true := by simp; omega
                have d6 : decide ((t : Int) < b) = true := by simp; omega
                go_wp2_with fail
                refine (HIH.out cb2 md t b _ HOB.out (HG0.out.trans HGB.out) (HEB.out.all (HEA.out.all HD.out)) (by omega) (by omega) (by rw [HEB.out.len, HEA.out.len]; exact hb) (by rw [HEB.out.len, HEA.out.len]; exact HLL.out) (HSPL.out.s3.out HEB.out (.inr (Nat.le_refl _))) (HSPL.out.s4.out HEB.out (.inr (by omega))) (by omega)).mono ?_
                rintro e x3 ⟨cc, rfl, he, hs, ho, hg⟩
                have HEC := Lib.hid he
                have HSC := Lib.hid hs
                have HOC := Lib.hid ho
                have HGC := Lib.hid (HGB.out.trans hg)
                clear he hs ho hg
                go_wp2
                refine bodyPost_ret (results_none rfl _ _ _) rfl ⟨cc, rfl, (HEA.out.trans (HEB.out.wide (Nat.le_refl _) (by omega))).trans (HEC.out.wide (by omega) (Nat.le_refl _)), ?_, HOC.out, HGC.out⟩
                exact Srt.glue (HSB.out.out HEC.out (.inl (Nat.le_refl _))) HSC.out (cross_ed (lt := fun x y => cm x y < 0) (by rw [HEA.out.len]; exact hb) HSPL.out.cr HEB.out HEC.out)
              ·
                have d5 : decide ((md : Int) < t) = true := by simp; omega
                have d6 : decide ((t : Int) < b) = false := by simp; omega
                have hs0 : Srt (fun x y => cm x y < 0) cb2 md b := by
                  obtain rfl : t = b := by omega
                  exact HSPL.out.s3.out HEB.out (.inr (Nat.le_refl _))
                obtain ⟨cc, he, hs, ho, hg⟩ : ∃ cc, Ed cb2 md b cc ∧ Srt (fun x y => cm x y < 0) cc md b ∧ OwnP _ base (.slice (some ⟨g, 0, none⟩) n c) cc ∧ w.grownBy _ (some g) := ⟨cb2, .refl, hs0, HOB.out, HGB.out⟩
                clear hs0
                have HEC := Lib.hid he
                have HSC := Lib.hid hs
                have HOC := Lib.hid ho
                have HGC := Lib.hid hg
                clear he hs ho hg
                go_wp2
                refine bodyPost_ret (results_none rfl _ _ _) rfl ⟨cc, rfl, (HEA.out.trans (HEB.out.wide (Nat.le_refl _) (by omega))).trans (HEC.out.wide (by omega) (Nat.le_refl _)), ?_, HOC.out, HGC.out⟩
                exact Srt.glue (HSB.out.out HEC.out (.inl (Nat.le_refl _))) HSC.out (cross_ed (lt := fun x y => cm x y < 0) (by rw [HEA.out.len]; exact hb) HSPL.out.cr HEB.out HEC.out)
            ·
              have d5 : decide ((md : Int) < t) = false := by simp; omega
              have hs0 : Srt (fun x y => cm x y < 0) cb2 md b := by
                obtain rfl : md = t := by omega
                exact HSPL.out.s4.out HEB.out (.inr (Nat.le_refl _))
              obtain ⟨cc, he, hs, ho, hg⟩ : ∃ cc, Ed cb2 md b cc ∧ Srt (fun x y => cm x y < 0) cc md b ∧ OwnP _ base (.slice (some ⟨g, 0, none⟩) n c) cc ∧ w.grownBy _ (some g) := ⟨cb2, .refl, hs0, HOB.out, HGB.out⟩
              clear hs0
              have HEC := Lib.hid he
              have HSC := Lib.hid hs
              have HOC := Lib.hid ho
              have HGC := Lib.hid hg
              clear he hs ho hg
              go_wp2
              refine bodyPost_ret (results_none rfl _ _ _) rfl ⟨cc, rfl, (HEA.out.trans (HEB.out.wide (Nat.le_refl _) (by omega))).trans (HEC.out.wide (by omega) (Nat.le_refl _)), ?_, HOC.out, HGC.out⟩
              exact Srt.glue (HSB.out.out HEC.out (.inl (Nat.le_refl _))) HSC.out (cross_ed (lt := fun x y => cm x y < 0) (by rw [HEA.out.len]; exact hb) HSPL.out.cr HEB.out HEC.out)
  ·
    have t3 : decide ((md : Int) < m) = false := by simp; omega
    have c4 : ¬ md < m := by omega
    have C2 := Lib.hid c2
    have C3 := Lib.hid c3
    clear hmd hnn hp c2 c3 c1
    go_enter Tryz.func117, Tryz.ntmps117
    go_wp2
    go_loopw [20, 21] (fun iv jv wr => Bis lo r0 (fun i j => (lo < i → ¬ cm (gt l (nn - i)) (gt l (i - 1)) < 0) ∧ (j < r0 → cm (gt l (p - j)) (gt l j) < 0)) w iv jv wr) (fun iv jv _ => (intOf jv).toNat - (intOf iv).toNat)
    case atStart => exact ⟨lo, r0, Nat.le_refl _, hlo, Nat.le_refl _, by first | rfl | rw [C2.out], by rw [C3.out], ⟨fun k => absurd k (Nat.lt_irrefl _), fun k => absurd k (Nat.lt_irrefl _)⟩, Kept.refl w⟩
    case round =>
      clear w1 w2 t1 t2 w3 w5 t3
      obtain ⟨i, j, hi, hij, hj, rfl, rfl, hci, hkw⟩ := hrel
      have HCI := Lib.hid hci
      have HKW := Lib.hid hkw
      have HO := Lib.hid (H.out.kept hkw)
      clear hci hkw
      by_cases hlt : i < j
      ·
        obtain ⟨h, hh⟩ : ∃ h, (i + j) / 2 = h := ⟨_, rfl⟩
        have hm : ((i : Int) + j) / 2 = (h : Int) := by omega
        have hh1 : i ≤ h := by omega
        have hh2 : h < j := by omega
        clear hh
        obtain ⟨u, hu⟩ : ∃ u, p - h = u := ⟨_, rfl⟩
        have wu : IntKind.i64.wrap ((p : Int) - h) = (u : Int) := by rw [IntWalk.i64_in _ (by omega)]; omega
        have HU := Lib.hid hu
        have h1 : u < l.length := by omega
        have h2 : h < l.length := by omega
        clear hu
        have hA := atP HO.out h1
        have hB := atP HO.out h2
        obtain ⟨x, hx⟩ : ∃ x, gt l u = x := ⟨_, rfl⟩
        obtain ⟨y, hy⟩ : ∃ y, gt l h = y := ⟨_, rfl⟩
        rw [hx] at hA
        rw [hy] at hB
        obtain ⟨ca0, ca1⟩ := hA
        obtain ⟨cb0, cb1⟩ := hB
        have hgl := lt_of_cell ca0
        have dx := HD.out _ h1
        have dy := HD.out _ h2
        rw [hx] at dx
        rw [hy] at dy
        obtain ⟨z, hz⟩ : ∃ z, cm x y = z := ⟨_, rfl⟩
        have i1 : u < n := by have := HN.out; omega
        have i2 : h < n := by have := HN.out; omega
        have HC2 : Hid (∀ W, Kept wr W → Calls Tryz.prog cb (#[ptV x, ptV y] ++ caps) W (Gives (.int .i64 z) W)) := Lib.hid fun W hk => by rw [← hz]; exact HC.out x y W dx dy (grownBy_kept HG0.out (HKW.out.trans hk))
        have HX := Lib.hid hx
        have HY := Lib.hid hy
        have HZ := Lib.hid hz
        clear hx hy hz
        go_wp2
        refine region_class (fun Z => Kept wr Z) 12 (by kernel_rfl) (by kernel_rfl) (Kept.refl _).drew ?_
        simp only [List.take_succ_cons, List.take_zero, List.drop_succ_cons, List.drop_zero]
        refine wpQuiet_yield (.func (.func cb) #[] caps) (by rfl) (fun Z hZ => ?_) ?_
        ·
          go_simp
        simp only [Act.put, List.setIfInBounds_toArray, List.set_cons_zero, List.set_cons_succ]
        refine wpQuiet_yield (.slice (some ⟨g, 0, none⟩) n c) (by rfl) (fun Z hZ => ?_) ?_
        ·
          go_simp
        simp only [Act.put, List.setIfInBounds_toArray, List.set_cons_zero, List.set_cons_succ]
        refine wpQuiet_yield (.int .i64 p) (by rfl) (fun Z hZ => ?_) ?_
        ·
          go_simp
        simp only [Act.put, List.setIfInBounds_toArray, List.set_cons_zero, List.set_cons_succ]
        refine wpQuiet_yield (.int .i64 h) (by rfl) (fun Z hZ => ?_) ?_
        ·
          go_simp
        simp only [Act.put, List.setIfInBounds_toArray, List.set_cons_zero, List.set_cons_succ]
        refine wpQuiet_yield (.int .i64 u) (by rfl) (fun Z hZ => ?_) ?_
        ·
          go_simp
        simp only [Act.put, List.setIfInBounds_toArray, List.set_cons_zero, List.set_cons_succ]
        refine wpQuiet_yield (.pointer (some ⟨g, u * 2, none⟩)) (by rfl) (fun Z hZ => ?_) ?_
        ·
          go_simp
        simp only [Act.put, List.setIfInBounds_toArray, List.set_cons_zero, List.set_cons_succ]
        refine wpQuiet_yield (ptV x) (by rfl) (fun Z hZ => ?_) ?_
        ·
          have r0 := hZ.cell ca0
          have r1 := hZ.cell ca1
          have rb := lt_of_cell r0
          go_simp
        simp only [Act.put, List.setIfInBounds_toArray, List.set_cons_zero, List.set_cons_succ]
        refine wpQuiet_yield (.slice (some ⟨g, 0, none⟩) n c) (by rfl) (fun Z hZ => ?_) ?_
        ·
          go_simp
        simp only [Act.put, List.setIfInBounds_toArray, List.set_cons_zero, List.set_cons_succ]
        refine wpQuiet_yield (.int .i64 h) (by rfl) (fun Z hZ => ?_) ?_
        ·
          go_simp
        simp only [Act.put, List.setIfInBounds_toArray, List.set_cons_zero, List.set_cons_succ]
        refine wpQuiet_yield (.pointer (some ⟨g, h * 2, none⟩)) (by rfl) (fun Z hZ => ?_) ?_
        ·
          go_simp
        simp only [Act.put, List.setIfInBounds_toArray, List.set_cons_zero, List.set_cons_succ]
        refine wpQuiet_yield (ptV y) (by rfl) (fun Z hZ => ?_) ?_
        ·
          have r0 := hZ.cell cb0
          have r1 := hZ.cell cb1
          have rb := lt_of_cell r0
          go_simp
        simp only [Act.put, List.setIfInBounds_toArray, List.set_cons_zero, List.set_cons_succ]
        refine wpQuiet_yield (.int .i64 z) (by rfl) (fun Z hZ => ?_) ?_
        ·
          go_simp
          have hF := HC2.out Z hZ
          exact hF.mono fun e Z' h => ⟨h.1, hZ.trans h.2⟩
        simp only [Act.put, List.setIfInBounds_toArray, List.set_cons_zero, List.set_cons_succ]
        refine wpQuiet_nil ?_
        intro X1 hk
        have HKX1 := Lib.hid hk
        clear hk
        by_cases hz : z < 0
        ·
          have HZ0 := Lib.hid hz
          have hzd : decide (z < 0) = true := decide_eq_true hz
          clear hz
          go_wp2
          refine ⟨⟨i, h, by omega, by omega, by omega, rfl, rfl, ⟨fun h => by have := HCI.out.1 h; omega, fun _ => by rw [HU.out, HX.out, HY.out, HZ.out]; exact HZ0.out⟩, HKW.out.trans HKX1.out⟩, by simp [intOf]; omega⟩
        ·
          have HZ0 := Lib.hid hz
          have hzd : decide (z < 0) = false := decide_eq_false hz
          clear hz
          go_wp2
          refine ⟨⟨h + 1, j, by omega, by omega, by omega, by go_num, rfl, ⟨fun _ => by rw [show h + 1 - 1 = h by omega, show nn - (h + 1) = u by have := HU.out; have := HP.out; omega, HX.out, HY.out, HZ.out]; exact HZ0.out, fun h => by have := HCI.out.2 h; omega⟩, HKW.out.trans HKX1.out⟩, by simp [intOf]; omega⟩
      ·
        obtain rfl : i = j := by omega
        obtain ⟨t, ht⟩ : ∃ t, nn - i = t := ⟨_, rfl⟩
        have wt : IntKind.i64.wrap ((nn : Int) - i) = (t : Int) := by rw [IntWalk.i64_in _ (by have := HNN.out; omega)]; have := HNN.out; omega
        have HT := Lib.hid ht
        have b1 : a ≤ i := by omega
        have b7 : lo ≤ i := hi
        have b8 : i ≤ r0 := hj
        have b2 : i ≤ md := by omega
        have b3 : i ≤ m := by omega
        have b4 : m ≤ t := by have := HNN.out; omega
        have b5 : t ≤ b := by have := HCASE.out; have := HNN.out; omega
        have b6 : md ≤ t := by have := HNN.out; omega
        clear ht hi hij hj hlt
        have HSP : Hid (∀ c : List Pt, (∀ q, gt c q = rotF (gt l) i m t q) → Split (fun x y => cm x y < 0) c a i md t b) := Lib.hid fun c hc => by
          have e : md + m - i = t := by rw [HNN.out]; exact HT.out
          have := split_of hL HD.out (s := i) (lo := lo) (r0 := r0) ham hmb hb HMD.out.symm HCASE.out (by omega) (by omega) K1.out K2.out (fun h => by have := HCI.out.1 h; rw [← HNN.out] at this; omega) (fun h => by have := HCI.out.2 h; rw [← HP.out, ← HNN.out] at this; exact this) (fun q => by rw [e]; exact hc q)
          rw [e] at this
          exact this
        by_cases ga1 : i < m
        · by_cases ga2 : m < t
          ·
            have d1 : decide ((i : Int) < m) = true := by simp; omega
            have d2 : decide ((m : Int) < t) = true := by simp; omega
            go_wp2_with fail
            refine (rotateP_any l g c base n i m t _ _ HO.out ga1 ga2 (by omega) HLL.out).mono ?_
            rintro e x1 ⟨ca, rfl, he, hs, ho, hg⟩
            have HEA : Hid (Ed l a b ca) := Lib.hid (he.wide b1 b5)
            have HSPL := Lib.hid (HSP.out ca hs)
            have HOA := Lib.hid ho
            have HGA := Lib.hid ((grownBy_kept (grownBy_same w (some g)) HKW.out).trans hg)
            clear he hs ho hg HKW HO
            by_cases gb1 : a < i
            · by_cases gb2 : i < md
              ·
                have d3 : decide ((a : Int) < i) = true := by simp; omega
                have d4 : decide ((i : Int) < md) = true := by simp; omega
                go_wp2_with fail
                refine (HIH.out ca a i md _ HOA.out (HG0.out.trans HGA.out) (HEA.out.all HD.out) (by omega) (by omega) (by rw [HEA.out.len]; omega) (by rw [HEA.out.len]; exact HLL.out) HSPL.out.s1 HSPL.out.s2 (by omega)).mono ?_
                rintro e x2 ⟨cb2, rfl, he, hs, ho, hg⟩
                have HEB := Lib.hid he
                have HSB := Lib.hid hs
                have HOB := Lib.hid ho
                have HGB := Lib.hid (HGA.out.trans hg)
                clear he hs ho hg
                by_cases gc1 : md < t
                · by_cases gc2 : t < b
                  ·
                    have d5 : decide ((md : Int) < t) = true := by simp; omega
                    have d6 : decide ((t : Int) < b) = true := by simp; omega
                    go_wp2_with fail
                    refine (HIH.out cb2 md t b _ HOB.out (HG0.out.trans HGB.out) (HEB.out.all (HEA.out.all HD.out)) (by omega) (by omega) (by rw [HEB.out.len, HEA.out.len]; exact hb) (by rw [HEB.out.len, HEA.out.len]; exact HLL.out) (HSPL.out.s3.out HEB.out (.inr (Nat.le_refl _))) (HSPL.out.s4.out HEB.out (.inr (by omega))) (by omega)).mono ?_
                    rintro e x3 ⟨cc, rfl, he, hs, ho, hg⟩
                    have HEC := Lib.hid he
                    have HSC := Lib.hid hs
                    have HOC := Lib.hid ho
                    have HGC := Lib.hid (HGB.out.trans hg)
                    clear he hs ho hg
                    go_wp2
                    refine bodyPost_ret (results_none rfl _ _ _) rfl ⟨cc, rfl, (HEA.out.trans (HEB.out.wide (Nat.le_refl _) (by omega))).trans (HEC.out.wide (by omega) (Nat.le_refl _)), ?_, HOC.out, HGC.out⟩
                    exact Srt.glue (HSB.out.out HEC.out (.inl (Nat.le_refl _))) HSC.out (cross_ed (lt := fun x y => cm x y < 0) (by rw [HEA.out.len]; exact hb) HSPL.out.cr HEB.out HEC.out)
                  ·
                    have d5 : decide ((md : Int) < t) = true := by simp; omega
                    have d6 : decide ((t : Int) < b) = false := by simp; omega
                    have hs0 : Srt (fun x y => cm x y < 0) cb2 md b := by
                      obtain rfl : t = b := by omega
                      exact HSPL.out.s3.out HEB.out (.inr (Nat.le_refl _))
                    obtain ⟨cc, he, hs, ho, hg⟩ : ∃ cc, Ed cb2 md b cc ∧ Srt (fun x y => cm x y < 0) cc md b ∧ OwnP _ base (.slice (some ⟨g, 0, none⟩) n c) cc ∧ w.grownBy _ (some g) := ⟨cb2, .refl, hs0, HOB.out, HGB.out⟩
                    clear hs0
                    have HEC := Lib.hid he
                    have HSC := Lib.hid hs
                    have HOC := Lib.hid ho
                    have HGC := Lib.hid hg
                    clear he hs ho hg
                    go_wp2
                    refine bodyPost_ret (results_none rfl _ _ _) rfl ⟨cc, rfl, (HEA.out.trans (HEB.out.wide (Nat.le_refl _) (by omega))).trans (HEC.out.wide (by omega) (Nat.le_refl _)), ?_, HOC.out, HGC.out⟩
                    exact Srt.glue (HSB.out.out HEC.out (.inl (Nat.le_refl _))) HSC.out (cross_ed (lt := fun x y => cm x y < 0) (by rw [HEA.out.len]; exact hb) HSPL.out.cr HEB.out HEC.out)
                ·
                  have d5 : decide ((md : Int) < t) = false := by simp; omega
                  have hs0 : Srt (fun x y => cm x y < 0) cb2 md b := by
                    obtain rfl : md = t := by omega
                    exact HSPL.out.s4.out HEB.out (.inr (Nat.le_refl _))
                  obtain ⟨cc, he, hs, ho, hg⟩ : ∃ cc, Ed cb2 md b cc ∧ Srt (fun x y => cm x y < 0) cc md b ∧ OwnP _ base (.slice (some ⟨g, 0, none⟩) n c) cc ∧ w.grownBy _ (some g) := ⟨cb2, .refl, hs0, HOB.out, HGB.out⟩
                  clear hs0
                  have HEC := Lib.hid he
                  have HSC := Lib.hid hs
                  have HOC := Lib.hid ho
                  have HGC := Lib.hid hg
                  clear he hs ho hg
                  go_wp2
                  refine bodyPost_ret (results_none rfl _ _ _) rfl ⟨cc, rfl, (HEA.out.trans (HEB.out.wide (Nat.le_refl _) (by omega))).trans (HEC.out.wide (by omega) (Nat.le_refl _)), ?_, HOC.out, HGC.out⟩
                  exact Srt.glue (HSB.out.out HEC.out (.inl (Nat.le_refl _))) HSC.out (cross_ed (lt := fun x y => cm x y < 0) (by rw [HEA.out.len]; exact hb) HSPL.out.cr HEB.out HEC.out)
              ·
                have d3 : decide ((a : Int) < i) = true := by simp; omega
                have d4 : decide ((i : Int) < md) = false := by simp; omega
                have hs0 : Srt (fun x y => cm x y < 0) ca a md := by
                  obtain rfl : i = md := by omega
                  exact HSPL.out.s1
                obtain ⟨cb2, he, hs, ho, hg⟩ : ∃ cb2, Ed ca a md cb2 ∧ Srt (fun x y => cm x y < 0) cb2 a md ∧ OwnP _ base (.slice (some ⟨g, 0, none⟩) n c) cb2 ∧ w.grownBy _ (some g) := ⟨ca, .refl, hs0, HOA.out, HGA.out⟩
                clear hs0
                have HEB := Lib.hid he
                have HSB := Lib.hid hs
                have HOB := Lib.hid ho
                have HGB := Lib.hid hg
                clear he hs ho hg
                by_cases gc1 : md < t
                · by_cases gc2 : t < b
                  ·
                    have d5 : decide ((md : Int) < t) = true := by simp; omega
                    have d6 : decide ((t : Int) < b) = true := by simp; omega
                    go_wp2_with fail
                    refine (HIH.out cb2 md t b _ HOB.out (HG0.out.trans HGB.out) (HEB.out.all (HEA.out.all HD.out)) (by omega) (by omega) (by rw [HEB.out.len, HEA.out.len]; exact hb) (by rw [HEB.out.len, HEA.out.len]; exact HLL.out) (HSPL.out.s3.out HEB.out (.inr (Nat.le_refl _))) (HSPL.out.s4.out HEB.out (.inr (by omega))) (by omega)).mono ?_
                    rintro e x3 ⟨cc, rfl, he, hs, ho, hg⟩
                    have HEC := Lib.hid he
                    have HSC := Lib.hid hs
                    have HOC := Lib.hid ho
                    have HGC := Lib.hid (HGB.out.trans hg)
                    clear he hs ho hg
                    go_wp2
                    refine bodyPost_ret (results_none rfl _ _ _) rfl ⟨cc, rfl, (HEA.out.trans (HEB.out.wide (Nat.le_refl _) (by omega))).trans (HEC.out.wide (by omega) (Nat.le_refl _)), ?_, HOC.out, HGC.out⟩
                    exact Srt.glue (HSB.out.out HEC.out (.inl (Nat.le_refl _))) HSC.out (cross_ed (lt := fun x y => cm x y < 0) (by rw [HEA.out.len]; exact hb) HSPL.out.cr HEB.out HEC.out)
                  ·
                    have d5 : decide ((md : Int) < t) = true := by simp; omega
                    have d6 : decide ((t : Int) < b) = false := by simp; omega
                    have hs0 : Srt (fun x y => cm x y < 0) cb2 md b := by
                      obtain rfl : t = b := by omega
                      exact HSPL.out.s3.out HEB.out (.inr (Nat.le_refl _))
                    obtain ⟨cc, he, hs, ho, hg⟩ : ∃ cc, Ed cb2 md b cc ∧ Srt (fun x y => cm x y < 0) cc md b ∧ OwnP _ base (.slice (some ⟨g, 0, none⟩) n c) cc ∧ w.grownBy _ (some g) := ⟨cb2, .refl, hs0, HOB.out, HGB.out⟩
                    clear hs0
                    have HEC := Lib.hid he
                    have HSC := Lib.hid hs
                    have HOC := Lib.hid ho
                    have HGC := Lib.hid hg
                    clear he hs ho hg
                    go_wp2
                    refine bodyPost_ret (results_none rfl _ _ _) rfl ⟨cc, rfl, (HEA.out.trans (HEB.out.wide (Nat.le_refl _) (by omega))).trans (HEC.out.wide (by omega) (Nat.le_refl _)), ?_, HOC.out, HGC.out⟩
                    exact Srt.glue (HSB.out.out HEC.out (.inl (Nat.le_refl _))) HSC.out (cross_ed (lt := fun x y => cm x y < 0) (by rw [HEA.out.len]; exact hb) HSPL.out.cr HEB.out HEC.out)
                ·
                  have d5 : decide ((md : Int) < t) = false := by simp; omega
                  have hs0 : Srt (fun x y => cm x y < 0) cb2 md b := by
                    obtain rfl : md = t := by omega
                    exact HSPL.out.s4.out HEB.out (.inr (Nat.le_refl _))
                  obtain ⟨cc, he, hs, ho, hg⟩ : ∃ cc, Ed cb2 md b cc ∧ Srt (fun x y => cm x y < 0) cc md b ∧ OwnP _ base (.slice (some ⟨g, 0, none⟩) n c) cc ∧ w.grownBy _ (some g) := ⟨cb2, .refl, hs0, HOB.out, HGB.out⟩
                  clear hs0
                  have HEC := Lib.hid he
                  have HSC := Lib.hid hs
                  have HOC := Lib.hid ho
                  have HGC := Lib.hid hg
                  clear he hs ho hg
                  go_wp2
                  refine bodyPost_ret (results_none rfl _ _ _) rfl ⟨cc, rfl, (HEA.out.trans (HEB.out.wide (Nat.le_refl _) (by omega))).trans (HEC.out.wide (by omega) (Nat.le_refl _)), ?_, HOC.out, HGC.out⟩
                  exact Srt.glue (HSB.out.out HEC.out (.inl (Nat.le_refl _))) HSC.out (cross_ed (lt := fun x y => cm x y < 0) (by rw [HEA.out.len]; exact hb) HSPL.out.cr HEB.out HEC.out)
            ·
              have d3 : decide ((a : Int) < i) = false := by simp; omega
              have hs0 : Srt (fun x y => cm x y < 0) ca a md := by
                obtain rfl : a = i := by omega
                exact HSPL.out.s2
              obtain ⟨cb2, he, hs, ho, hg⟩ : ∃ cb2, Ed ca a md cb2 ∧ Srt (fun x y => cm x y < 0) cb2 a md ∧ OwnP _ base (.slice (some ⟨g, 0, none⟩) n c) cb2 ∧ w.grownBy _ (some g) := ⟨ca, .refl, hs0, HOA.out, HGA.out⟩
              clear hs0
              have HEB := Lib.hid he
              have HSB := Lib.hid hs
              have HOB := Lib.hid ho
              have HGB := Lib.hid hg
              clear he hs ho hg
              by_cases gc1 : md < t
              · by_cases gc2 : t < b
                ·
                  have d5 : decide ((md : Int) < t) = true := by simp; omega
                  have d6 : decide ((t : Int) < b) = true := by simp; omega
                  go_wp2_with fail
                  refine (HIH.out cb2 md t b _ HOB.out (HG0.out.trans HGB.out) (HEB.out.all (HEA.out.all HD.out)) (by omega) (by omega) (by rw [HEB.out.len, HEA.out.len]; exact hb) (by rw [HEB.out.len, HEA.out.len]; exact HLL.out) (HSPL.out.s3.out HEB.out (.inr (Nat.le_refl _))) (HSPL.out.s4.out HEB.out (.inr (by omega))) (by omega)).mono ?_
                  rintro e x3 ⟨cc, rfl, he, hs, ho, hg⟩
                  have HEC := Lib.hid he
                  have HSC := Lib.hid hs
                  have HOC := Lib.hid ho
                  have HGC := Lib.hid (HGB.out.trans hg)
                  clear he hs ho hg
                  go_wp2
                  refine bodyPost_ret (results_none rfl _ _ _) rfl ⟨cc, rfl, (HEA.out.trans (HEB.out.wide (Nat.le_refl _) (by omega))).trans (HEC.out.wide (by omega) (Nat.le_refl _)), ?_, HOC.out, HGC.out⟩
                  exact Srt.glue (HSB.out.out HEC.out (.inl (Nat.le_refl _))) HSC.out (cross_ed (lt := fun x y => cm x y < 0) (by rw [HEA.out.len]; exact hb) HSPL.out.cr HEB.out HEC.out)
                ·
                  have d5 : decide ((md : Int) < t) = true := by simp; omega
                  have d6 : decide ((t : Int) < b) = false := by simp; omega
                  have hs0 : Srt (fun x y => cm x y < 0) cb2 md b := by
                    obtain rfl : t = b := by omega
                    exact HSPL.out.s3.out HEB.out (.inr (Nat.le_refl _))
                  obtain ⟨cc, he, hs, ho, hg⟩ : ∃ cc, Ed cb2 md b cc ∧ Srt (fun x y => cm x y < 0) cc md b ∧ OwnP _ base (.slice (some ⟨g, 0, none⟩) n c) cc ∧ w.grownBy _ (some g) := ⟨cb2, .refl, hs0, HOB.out, HGB.out⟩
                  clear hs0
                  have HEC := Lib.hid he
                  have HSC := Lib.hid hs
                  have HOC := Lib.hid ho
                  have HGC := Lib.hid hg
                  clear he hs ho hg
                  go_wp2
                  refine bodyPost_ret (results_none rfl _ _ _) rfl ⟨cc, rfl, (HEA.out.trans (HEB.out.wide (Nat.le_refl _) (by omega))).trans (HEC.out.wide (by omega) (Nat.le_refl _)), ?_, HOC.out, HGC.out⟩
                  exact Srt.glue (HSB.out.out HEC.out (.inl (Nat.le_refl _))) HSC.out (cross_ed (lt := fun x y => cm x y < 0) (by rw [HEA.out.len]; exact hb) HSPL.out.cr HEB.out HEC.out)
              ·
                have d5 : decide ((md : Int) < t) = false := by simp; omega
                have hs0 : Srt (fun x y => cm x y < 0) cb2 md b := by
                  obtain rfl : md = t := by omega
                  exact HSPL.out.s4.out HEB.out (.inr (Nat.le_refl _))
                obtain ⟨cc, he, hs, ho, hg⟩ : ∃ cc, Ed cb2 md b cc ∧ Srt (fun x y => cm x y < 0) cc md b ∧ OwnP _ base (.slice (some ⟨g, 0, none⟩) n c) cc ∧ w.grownBy _ (some g) := ⟨cb2, .refl, hs0, HOB.out, HGB.out⟩
                clear hs0
                have HEC := Lib.hid he
                have HSC := Lib.hid hs
                have HOC := Lib.hid ho
                have HGC := Lib.hid hg
                clear he hs ho hg
                go_wp2
                refine bodyPost_ret (results_none rfl _ _ _) rfl ⟨cc, rfl, (HEA.out.trans (HEB.out.wide (Nat.le_refl _) (by omega))).trans (HEC.out.wide (by omega) (Nat.le_refl _)), ?_, HOC.out, HGC.out⟩
                exact Srt.glue (HSB.out.out HEC.out (.inl (Nat.le_refl _))) HSC.out (cross_ed (lt := fun x y => cm x y < 0) (by rw [HEA.out.len]; exact hb) HSPL.out.cr HEB.out HEC.out)
          ·
            have d1 : decide ((i : Int) < m) = true := by simp; omega
            have d2 : decide ((m : Int) < t) = false := by simp; omega
            obtain ⟨ca, he, hs, ho, hg⟩ : ∃ ca, Ed l a b ca ∧ Split (fun x y => cm x y < 0) ca a i md t b ∧ OwnP wr base (.slice (some ⟨g, 0, none⟩) n c) ca ∧ w.grownBy wr (some g) := ⟨l, .refl, HSP.out l (rot_none b3 b4 (by omega)), HO.out, grownBy_kept (grownBy_same w (some g)) HKW.out⟩
            have HEA := Lib.hid he
            have HSPL := Lib.hid hs
            have HOA := Lib.hid ho
            have HGA := Lib.hid hg
            clear he hs ho hg HKW HO
            by_cases gb1 : a < i
            · by_cases gb2 : i < md
              ·
                have d3 : decide ((a : Int) < i) = true := by simp; omega
                have d4 : decide ((i : Int) < md) = true := by simp; omega
                go_wp2_with fail
                refine (HIH.out ca a i md _ HOA.out (HG0.out.trans HGA.out) (HEA.out.all HD.out) (by omega) (by omega) (by rw [HEA.out.len]; omega) (by rw [HEA.out.len]; exact HLL.out) HSPL.out.s1 HSPL.out.s2 (by omega)).mono ?_
                rintro e x2 ⟨cb2, rfl, he, hs, ho, hg⟩
                have HEB := Lib.hid he
                have HSB := Lib.hid hs
                have HOB := Lib.hid ho
                have HGB := Lib.hid (HGA.out.trans hg)
                clear he hs ho hg
                by_cases gc1 : md < t
                · by_cases gc2 : t < b
                  ·
                    have d5 : decide ((md : Int) < t) = true := by simp; omega
                    have d6 : decide ((t : Int) < b) = true := by simp; omega
                    go_wp2_with fail
                    refine (HIH.out cb2 md t b _ HOB.out (HG0.out.trans HGB.out) (HEB.out.all (HEA.out.all HD.out)) (by omega) (by omega) (by rw [HEB.out.len, HEA.out.len]; exact hb) (by rw [HEB.out.len, HEA.out.len]; exact HLL.out) (HSPL.out.s3.out HEB.out (.inr (Nat.le_refl _))) (HSPL.out.s4.out HEB.out (.inr (by omega))) (by omega)).mono ?_
                    rintro e x3 ⟨cc, rfl, he, hs, ho, hg⟩
                    have HEC := Lib.hid he
                    have HSC := Lib.hid hs
                    have HOC := Lib.hid ho
                    have HGC := Lib.hid (HGB.out.trans hg)
                    clear he hs ho hg
                    go_wp2
                    refine bodyPost_ret (results_none rfl _ _ _) rfl ⟨cc, rfl, (HEA.out.trans (HEB.out.wide (Nat.le_refl _) (by omega))).trans (HEC.out.wide (by omega) (Nat.le_refl _)), ?_, HOC.out, HGC.out⟩
                    exact Srt.glue (HSB.out.out HEC.out (.inl (Nat.le_refl _))) HSC.out (cross_ed (lt := fun x y => cm x y < 0) (by rw [HEA.out.len]; exact hb) HSPL.out.cr HEB.out HEC.out)
                  ·
                    have d5 : decide ((md : Int) < t) = true := by simp; omega
                    have d6 : decide ((t : Int) < b) = false := by simp; omega
                    have hs0 : Srt (fun x y => cm x y < 0) cb2 md b := by
                      obtain rfl : t = b := by omega
                      exact HSPL.out.s3.out HEB.out (.inr (Nat.le_refl _))
                    obtain ⟨cc, he, hs, ho, hg⟩ : ∃ cc, Ed cb2 md b cc ∧ Srt (fun x y => cm x y < 0) cc md b ∧ OwnP _ base (.slice (some ⟨g, 0, none⟩) n c) cc ∧ w.grownBy _ (some g) := ⟨cb2, .refl, hs0, HOB.out, HGB.out⟩
                    clear hs0
                    have HEC := Lib.hid he
                    have HSC := Lib.hid hs
                    have HOC := Lib.hid ho
                    have HGC := Lib.hid hg
                    clear he hs ho hg
                    go_wp2
                    refine bodyPost_ret (results_none rfl _ _ _) rfl ⟨cc, rfl, (HEA.out.trans (HEB.out.wide (Nat.le_refl _) (by omega))).trans (HEC.out.wide (by omega) (Nat.le_refl _)), ?_, HOC.out, HGC.out⟩
                    exact Srt.glue (HSB.out.out HEC.out (.inl (Nat.le_refl _))) HSC.out (cross_ed (lt := fun x y => cm x y < 0) (by rw [HEA.out.len]; exact hb) HSPL.out.cr HEB.out HEC.out)
                ·
                  have d5 : decide ((md : Int) < t) = false := by simp; omega
                  have hs0 : Srt (fun x y => cm x y < 0) cb2 md b := by
                    obtain rfl : md = t := by omega
                    exact HSPL.out.s4.out HEB.out (.inr (Nat.le_refl _))
                  obtain ⟨cc, he, hs, ho, hg⟩ : ∃ cc, Ed cb2 md b cc ∧ Srt (fun x y => cm x y < 0) cc md b ∧ OwnP _ base (.slice (some ⟨g, 0, none⟩) n c) cc ∧ w.grownBy _ (some g) := ⟨cb2, .refl, hs0, HOB.out, HGB.out⟩
                  clear hs0
                  have HEC := Lib.hid he
                  have HSC := Lib.hid hs
                  have HOC := Lib.hid ho
                  have HGC := Lib.hid hg
                  clear he hs ho hg
                  go_wp2
                  refine bodyPost_ret (results_none rfl _ _ _) rfl ⟨cc, rfl, (HEA.out.trans (HEB.out.wide (Nat.le_refl _) (by omega))).trans (HEC.out.wide (by omega) (Nat.le_refl _)), ?_, HOC.out, HGC.out⟩
                  exact Srt.glue (HSB.out.out HEC.out (.inl (Nat.le_refl _))) HSC.out (cross_ed (lt := fun x y => cm x y < 0) (by rw [HEA.out.len]; exact hb) HSPL.out.cr HEB.out HEC.out)
              ·
                have d3 : decide ((a : Int) < i) = true := by simp; omega
                have d4 : decide ((i : Int) < md) = false := by simp; omega
                have hs0 : Srt (fun x y => cm x y < 0) ca a md := by
                  obtain rfl : i = md := by omega
                  exact HSPL.out.s1
                obtain ⟨cb2, he, hs, ho, hg⟩ : ∃ cb2, Ed ca a md cb2 ∧ Srt (fun x y => cm x y < 0) cb2 a md ∧ OwnP _ base (.slice (some ⟨g, 0, none⟩) n c) cb2 ∧ w.grownBy _ (some g) := ⟨ca, .refl, hs0, HOA.out, HGA.out⟩
                clear hs0
                have HEB := Lib.hid he
                have HSB := Lib.hid hs
                have HOB := Lib.hid ho
                have HGB := Lib.hid hg
                clear he hs ho hg
                by_cases gc1 : md < t
                · by_cases gc2 : t < b
                  ·
                    have d5 : decide ((md : Int) < t) = true := by simp; omega
                    have d6 : decide ((t : Int) < b) = true := by simp; omega
                    go_wp2_with fail
                    refine (HIH.out cb2 md t b _ HOB.out (HG0.out.trans HGB.out) (HEB.out.all (HEA.out.all HD.out)) (by omega) (by omega) (by rw [HEB.out.len, HEA.out.len]; exact hb) (by rw [HEB.out.len, HEA.out.len]; exact HLL.out) (HSPL.out.s3.out HEB.out (.inr (Nat.le_refl _))) (HSPL.out.s4.out HEB.out (.inr (by omega))) (by omega)).mono ?_
                    rintro e x3 ⟨cc, rfl, he, hs, ho, hg⟩
                    have HEC := Lib.hid he
                    have HSC := Lib.hid hs
                    have HOC := Lib.hid ho
                    have HGC := Lib.hid (HGB.out.trans hg)
                    clear he hs ho hg
                    go_wp2
                    refine bodyPost_ret (results_none rfl _ _ _) rfl ⟨cc, rfl, (HEA.out.trans (HEB.out.wide (Nat.le_refl _) (by omega))).trans (HEC.out.wide (by omega) (Nat.le_refl _)), ?_, HOC.out, HGC.out⟩
                    exact Srt.glue (HSB.out.out HEC.out (.inl (Nat.le_refl _))) HSC.out (cross_ed (lt := fun x y => cm x y < 0) (by rw [HEA.out.len]; exact hb) HSPL.out.cr HEB.out HEC.out)
                  ·
                    have d5 : decide ((md : Int) < t) = true := by simp; omega
                    have d6 : decide ((t : Int) < b) = false := by simp; omega
                    have hs0 : Srt (fun x y => cm x y < 0) cb2 md b := by
                      obtain rfl : t = b := by omega
                      exact HSPL.out.s3.out HEB.out (.inr (Nat.le_refl _))
                    obtain ⟨cc, he, hs, ho, hg⟩ : ∃ cc, Ed cb2 md b cc ∧ Srt (fun x y => cm x y < 0) cc md b ∧ OwnP _ base (.slice (some ⟨g, 0, none⟩) n c) cc ∧ w.grownBy _ (some g) := ⟨cb2, .refl, hs0, HOB.out, HGB.out⟩
                    clear hs0
                    have HEC := Lib.hid he
                    have HSC := Lib.hid hs
                    have HOC := Lib.hid ho
                    have HGC := Lib.hid hg
                    clear he hs ho hg
                    go_wp2
                    refine bodyPost_ret (results_none rfl _ _ _) rfl ⟨cc, rfl, (HEA.out.trans (HEB.out.wide (Nat.le_refl _) (by omega))).trans (HEC.out.wide (by omega) (Nat.le_refl _)), ?_, HOC.out, HGC.out⟩
                    exact Srt.glue (HSB.out.out HEC.out (.inl (Nat.le_refl _))) HSC.out (cross_ed (lt := fun x y => cm x y < 0) (by rw [HEA.out.len]; exact hb) HSPL.out.cr HEB.out HEC.out)
                ·
                  have d5 : decide ((md : Int) < t) = false := by simp; omega
                  have hs0 : Srt (fun x y => cm x y < 0) cb2 md b := by
                    obtain rfl : md = t := by omega
                    exact HSPL.out.s4.out HEB.out (.inr (Nat.le_refl _))
                  obtain ⟨cc, he, hs, ho, hg⟩ : ∃ cc, Ed cb2 md b cc ∧ Srt (fun x y => cm x y < 0) cc md b ∧ OwnP _ base (.slice (some ⟨g, 0, none⟩) n c) cc ∧ w.grownBy _ (some g) := ⟨cb2, .refl, hs0, HOB.out, HGB.out⟩
                  clear hs0
                  have HEC := Lib.hid he
                  have HSC := Lib.hid hs
                  have HOC := Lib.hid ho
                  have HGC := Lib.hid hg
                  clear he hs ho hg
                  go_wp2
                  refine bodyPost_ret (results_none rfl _ _ _) rfl ⟨cc, rfl, (HEA.out.trans (HEB.out.wide (Nat.le_refl _) (by omega))).trans (HEC.out.wide (by omega) (Nat.le_refl _)), ?_, HOC.out, HGC.out⟩
                  exact Srt.glue (HSB.out.out HEC.out (.inl (Nat.le_refl _))) HSC.out (cross_ed (lt := fun x y => cm x y < 0) (by rw [HEA.out.len]; exact hb) HSPL.out.cr HEB.out HEC.out)
            ·
              have d3 : decide ((a : Int) < i) = false := by simp; omega
              have hs0 : Srt (fun x y => cm x y < 0) ca a md := by
                obtain rfl : a = i := by omega
                exact HSPL.out.s2
              obtain ⟨cb2, he, hs, ho, hg⟩ : ∃ cb2, Ed ca a md cb2 ∧ Srt (fun x y => cm x y < 0) cb2 a md ∧ OwnP _ base (.slice (some ⟨g, 0, none⟩) n c) cb2 ∧ w.grownBy _ (some g) := ⟨ca, .refl, hs0, HOA.out, HGA.out⟩
              clear hs0
              have HEB := Lib.hid he
              have HSB := Lib.hid hs
              have HOB := Lib.hid ho
              have HGB := Lib.hid hg
              clear he hs ho hg
              by_cases gc1 : md < t
              · by_cases gc2 : t < b
                ·
                  have d5 : decide ((md : Int) < t) = true := by simp; omega
                  have d6 : decide ((t : Int) < b) = true := by simp; omega
                  go_wp2_with fail
                  refine (HIH.out cb2 md t b _ HOB.out (HG0.out.trans HGB.out) (HEB.out.all (HEA.out.all HD.out)) (by omega) (by omega) (by rw [HEB.out.len, HEA.out.len]; exact hb) (by rw [HEB.out.len, HEA.out.len]; exact HLL.out) (HSPL.out.s3.out HEB.out (.inr (Nat.le_refl _))) (HSPL.out.s4.out HEB.out (.inr (by omega))) (by omega)).mono ?_
                  rintro e x3 ⟨cc, rfl, he, hs, ho, hg⟩
                  have HEC := Lib.hid he
                  have HSC := Lib.hid hs
                  have HOC := Lib.hid ho
                  have HGC := Lib.hid (HGB.out.trans hg)
                  clear he hs ho hg
                  go_wp2
                  refine bodyPost_ret (results_none rfl _ _ _) rfl ⟨cc, rfl, (HEA.out.trans (HEB.out.wide (Nat.le_refl _) (by omega))).trans (HEC.out.wide (by omega) (Nat.le_refl _)), ?_, HOC.out, HGC.out⟩
                  exact Srt.glue (HSB.out.out HEC.out (.inl (Nat.le_refl _))) HSC.out (cross_ed (lt := fun x y => cm x y < 0) (by rw [HEA.out.len]; exact hb) HSPL.out.cr HEB.out HEC.out)
                ·
                  have d5 : decide ((md : Int) < t) = true := by simp; omega
                  have d6 : decide ((t : Int) < b) = false := by simp; omega
                  have hs0 : Srt (fun x y => cm x y < 0) cb2 md b := by
                    obtain rfl : t = b := by omega
                    exact HSPL.out.s3.out HEB.out (.inr (Nat.le_refl _))
                  obtain ⟨cc, he, hs, ho, hg⟩ : ∃ cc, Ed cb2 md b cc ∧ Srt (fun x y => cm x y < 0) cc md b ∧ OwnP _ base (.slice (some ⟨g, 0, none⟩) n c) cc ∧ w.grownBy _ (some g) := ⟨cb2, .refl, hs0, HOB.out, HGB.out⟩
                  clear hs0
                  have HEC := Lib.hid he
                  have HSC := Lib.hid hs
                  have HOC := Lib.hid ho
                  have HGC := Lib.hid hg
                  clear he hs ho hg
                  go_wp2
                  refine bodyPost_ret (results_none rfl _ _ _) rfl ⟨cc, rfl, (HEA.out.trans (HEB.out.wide (Nat.le_refl _) (by omega))).trans (HEC.out.wide (by omega) (Nat.le_refl _)), ?_, HOC.out, HGC.out⟩
                  exact Srt.glue (HSB.out.out HEC.out (.inl (Nat.le_refl _))) HSC.out (cross_ed (lt := fun x y => cm x y < 0) (by rw [HEA.out.len]; exact hb) HSPL.out.cr HEB.out HEC.out)
              ·
                have d5 : decide ((md : Int) < t) = false := by simp; omega
                have hs0 : Srt (fun x y => cm x y < 0) cb2 md b := by
                  obtain rfl : md = t := by omega
                  exact HSPL.out.s4.out HEB.out (.inr (Nat.le_refl _))
                obtain ⟨cc, he, hs, ho, hg⟩ : ∃ cc, Ed cb2 md b cc ∧ Srt (fun x y => cm x y < 0) cc md b ∧ OwnP _ base (.slice (some ⟨g, 0, none⟩) n c) cc ∧ w.grownBy _ (some g) := ⟨cb2, .refl, hs0, HOB.out, HGB.out⟩
                clear hs0
                have HEC := Lib.hid he
                have HSC := Lib.hid hs
                have HOC := Lib.hid ho
                have HGC := Lib.hid hg
                clear he hs ho hg
                go_wp2
                refine bodyPost_ret (results_none rfl _ _ _) rfl ⟨cc, rfl, (HEA.out.trans (HEB.out.wide (Nat.le_refl _) (by omega))).trans (HEC.out.wide (by omega) (Nat.le_refl _)), ?_, HOC.out, HGC.out⟩
                exact Srt.glue (HSB.out.out HEC.out (.inl (Nat.le_refl _))) HSC.out (cross_ed (lt := fun x y => cm x y < 0) (by rw [HEA.out.len]; exact hb) HSPL.out.cr HEB.out HEC.out)
        ·
          have d1 : decide ((i : Int) < m) = false := by simp; omega
          obtain ⟨ca, he, hs, ho, hg⟩ : ∃ ca, Ed l a b ca ∧ Split (fun x y => cm x y < 0) ca a i md t b ∧ OwnP wr base (.slice (some ⟨g, 0, none⟩) n c) ca ∧ w.grownBy wr (some g) := ⟨l, .refl, HSP.out l (rot_none b3 b4 (by omega)), HO.out, grownBy_kept (grownBy_same w (some g)) HKW.out⟩
          have HEA := Lib.hid he
          have HSPL := Lib.hid hs
          have HOA := Lib.hid ho
          have HGA := Lib.hid hg
          clear he hs ho hg HKW HO
          by_cases gb1 : a < i
          · by_cases gb2 : i < md
            ·
              have d3 : decide ((a : Int) < i) = true := by simp; omega
              have d4 : decide ((i : Int) < md) = true := by simp; omega
              go_wp2_with fail
              refine (HIH.out ca a i md _ HOA.out (HG0.out.trans HGA.out) (HEA.out.all HD.out) (by omega) (by omega) (by rw [HEA.out.len]; omega) (by rw [HEA.out.len]; exact HLL.out) HSPL.out.s1 HSPL.out.s2 (by omega)).mono ?_
              rintro e x2 ⟨cb2, rfl, he, hs, ho, hg⟩
              have HEB := Lib.hid he
              have HSB := Lib.hid hs
              have HOB := Lib.hid ho
              have HGB := Lib.hid (HGA.out.trans hg)
              clear he hs ho hg
              by_cases gc1 : md < t
              · by_cases gc2 : t < b
                ·
                  have d5 : decide ((md : Int) < t) = true := by simp; omega
                  have d6 : decide ((t : Int) < b) = true := by simp; omega
                  go_wp2_with fail
                  refine (HIH.out cb2 md t b _ HOB.out (HG0.out.trans HGB.out) (HEB.out.all (HEA.out.all HD.out)) (by omega) (by omega) (by rw [HEB.out.len, HEA.out.len]; exact hb) (by rw [HEB.out.len, HEA.out.len]; exact HLL.out) (HSPL.out.s3.out HEB.out (.inr (Nat.le_refl _))) (HSPL.out.s4.out HEB.out (.inr (by omega))) (by omega)).mono ?_
                  rintro e x3 ⟨cc, rfl, he, hs, ho, hg⟩
                  have HEC := Lib.hid he
                  have HSC := Lib.hid hs
                  have HOC := Lib.hid ho
                  have HGC := Lib.hid (HGB.out.trans hg)
                  clear he hs ho hg
                  go_wp2
                  refine bodyPost_ret (results_none rfl _ _ _) rfl ⟨cc, rfl, (HEA.out.trans (HEB.out.wide (Nat.le_refl _) (by omega))).trans (HEC.out.wide (by omega) (Nat.le_refl _)), ?_, HOC.out, HGC.out⟩
                  exact Srt.glue (HSB.out.out HEC.out (.inl (Nat.le_refl _))) HSC.out (cross_ed (lt := fun x y => cm x y < 0) (by rw [HEA.out.len]; exact hb) HSPL.out.cr HEB.out HEC.out)
                ·
                  have d5 : decide ((md : Int) < t) = true := by simp; omega
                  have d6 : decide ((t : Int) < b) = false := by simp; omega
                  have hs0 : Srt (fun x y => cm x y < 0) cb2 md b := by
                    obtain rfl : t = b := by omega
                    exact HSPL.out.s3.out HEB.out (.inr (Nat.le_refl _))
                  obtain ⟨cc, he, hs, ho, hg⟩ : ∃ cc, Ed cb2 md b cc ∧ Srt (fun x y => cm x y < 0) cc md b ∧ OwnP _ base (.slice (some ⟨g, 0, none⟩) n c) cc ∧ w.grownBy _ (some g) := ⟨cb2, .refl, hs0, HOB.out, HGB.out⟩
                  clear hs0
                  have HEC := Lib.hid he
                  have HSC := Lib.hid hs
                  have HOC := Lib.hid ho
                  have HGC := Lib.hid hg
                  clear he hs ho hg
                  go_wp2
                  refine bodyPost_ret (results_none rfl _ _ _) rfl ⟨cc, rfl, (HEA.out.trans (HEB.out.wide (Nat.le_refl _) (by omega))).trans (HEC.out.wide (by omega) (Nat.le_refl _)), ?_, HOC.out, HGC.out⟩
                  exact Srt.glue (HSB.out.out HEC.out (.inl (Nat.le_refl _))) HSC.out (cross_ed (lt := fun x y => cm x y < 0) (by rw [HEA.out.len]; exact hb) HSPL.out.cr HEB.out HEC.out)
              ·
                have d5 : decide ((md : Int) < t) = false := by simp; omega
                have hs0 : Srt (fun x y => cm x y < 0) cb2 md b := by
                  obtain rfl : md = t := by omega
                  exact HSPL.out.s4.out HEB.out (.inr (Nat.le_refl _))
                obtain ⟨cc, he, hs, ho, hg⟩ : ∃ cc, Ed cb2 md b cc ∧ Srt (fun x y => cm x y < 0) cc md b ∧ OwnP _ base (.slice (some ⟨g, 0, none⟩) n c) cc ∧ w.grownBy _ (some g) := ⟨cb2, .refl, hs0, HOB.out, HGB.out⟩
                clear hs0
                have HEC := Lib.hid he
                have HSC := Lib.hid hs
                have HOC := Lib.hid ho
                have HGC := Lib.hid hg
                clear he hs ho hg
                go_wp2
                refine bodyPost_ret (results_none rfl _ _ _) rfl ⟨cc, rfl, (HEA.out.trans (HEB.out.wide (Nat.le_refl _) (by omega))).trans (HEC.out.wide (by omega) (Nat.le_refl _)), ?_, HOC.out, HGC.out⟩
                exact Srt.glue (HSB.out.out HEC.out (.inl (Nat.le_refl _))) HSC.out (cross_ed (lt := fun x y => cm x y < 0) (by rw [HEA.out.len]; exact hb) HSPL.out.cr HEB.out HEC.out)
            ·
              have d3 : decide ((a : Int) < i) = true := by simp; omega
              have d4 : decide ((i : Int) < md) = false := by simp; omega
              have hs0 : Srt (fun x y => cm x y < 0) ca a md := by
                obtain rfl : i = md := by omega
                exact HSPL.out.s1
              obtain ⟨cb2, he, hs, ho, hg⟩ : ∃ cb2, Ed ca a md cb2 ∧ Srt (fun x y => cm x y < 0) cb2 a md ∧ OwnP _ base (.slice (some ⟨g, 0, none⟩) n c) cb2 ∧ w.grownBy _ (some g) := ⟨ca, .refl, hs0, HOA.out, HGA.out⟩
              clear hs0
              have HEB := Lib.hid he
              have HSB := Lib.hid hs
              have HOB := Lib.hid ho
              have HGB := Lib.hid hg
              clear he hs ho hg
              by_cases gc1 : md < t
              · by_cases gc2 : t < b
                ·
                  have d5 : decide ((md : Int) < t) = true := by simp; omega
                  have d6 : decide ((t : Int) < b) = true := by simp; omega
                  go_wp2_with fail
                  refine (HIH.out cb2 md t b _ HOB.out (HG0.out.trans HGB.out) (HEB.out.all (HEA.out.all HD.out)) (by omega) (by omega) (by rw [HEB.out.len, HEA.out.len]; exact hb) (by rw [HEB.out.len, HEA.out.len]; exact HLL.out) (HSPL.out.s3.out HEB.out (.inr (Nat.le_refl _))) (HSPL.out.s4.out HEB.out (.inr (by omega))) (by omega)).mono ?_
                  rintro e x3 ⟨cc, rfl, he, hs, ho, hg⟩
                  have HEC := Lib.hid he
                  have HSC := Lib.hid hs
                  have HOC := Lib.hid ho
                  have HGC := Lib.hid (HGB.out.trans hg)
                  clear he hs ho hg
                  go_wp2
                  refine bodyPost_ret (results_none rfl _ _ _) rfl ⟨cc, rfl, (HEA.out.trans (HEB.out.wide (Nat.le_refl _) (by omega))).trans (HEC.out.wide (by omega) (Nat.le_refl _)), ?_, HOC.out, HGC.out⟩
                  exact Srt.glue (HSB.out.out HEC.out (.inl (Nat.le_refl _))) HSC.out (cross_ed (lt := fun x y => cm x y < 0) (by rw [HEA.out.len]; exact hb) HSPL.out.cr HEB.out HEC.out)
                ·
                  have d5 : decide ((md : Int) < t) = true := by simp; omega
                  have d6 : decide ((t : Int) < b) = false := by simp; omega
                  have hs0 : Srt (fun x y => cm x y < 0) cb2 md b := by
                    obtain rfl : t = b := by omega
                    exact HSPL.out.s3.out HEB.out (.inr (Nat.le_refl _))
                  obtain ⟨cc, he, hs, ho, hg⟩ : ∃ cc, Ed cb2 md b cc ∧ Srt (fun x y => cm x y < 0) cc md b ∧ OwnP _ base (.slice (some ⟨g, 0, none⟩) n c) cc ∧ w.grownBy _ (some g) := ⟨cb2, .refl, hs0, HOB.out, HGB.out⟩
                  clear hs0
                  have HEC := Lib.hid he
                  have HSC := Lib.hid hs
                  have HOC := Lib.hid ho
                  have HGC := Lib.hid hg
                  clear he hs ho hg
                  go_wp2
                  refine bodyPost_ret (results_none rfl _ _ _) rfl ⟨cc, rfl, (HEA.out.trans (HEB.out.wide (Nat.le_refl _) (by omega))).trans (HEC.out.wide (by omega) (Nat.le_refl _)), ?_, HOC.out, HGC.out⟩
                  exact Srt.glue (HSB.out.out HEC.out (.inl (Nat.le_refl _))) HSC.out (cross_ed (lt := fun x y => cm x y < 0) (by rw [HEA.out.len]; exact hb) HSPL.out.cr HEB.out HEC.out)
              ·
                have d5 : decide ((md : Int) < t) = false := by simp; omega
                have hs0 : Srt (fun x y => cm x y < 0) cb2 md b := by
                  obtain rfl : md = t := by omega
                  exact HSPL.out.s4.out HEB.out (.inr (Nat.le_refl _))
                obtain ⟨cc, he, hs, ho, hg⟩ : ∃ cc, Ed cb2 md b cc ∧ Srt (fun x y => cm x y < 0) cc md b ∧ OwnP _ base (.slice (some ⟨g, 0, none⟩) n c) cc ∧ w.grownBy _ (some g) := ⟨cb2, .refl, hs0, HOB.out, HGB.out⟩
                clear hs0
                have HEC := Lib.hid he
                have HSC := Lib.hid hs
                have HOC := Lib.hid ho
                have HGC := Lib.hid hg
                clear he hs ho hg
                go_wp2
                refine bodyPost_ret (results_none rfl _ _ _) rfl ⟨cc, rfl, (HEA.out.trans (HEB.out.wide (Nat.le_refl _) (by omega))).trans (HEC.out.wide (by omega) (Nat.le_refl _)), ?_, HOC.out, HGC.out⟩
                exact Srt.glue (HSB.out.out HEC.out (.inl (Nat.le_refl _))) HSC.out (cross_ed (lt := fun x y => cm x y < 0) (by rw [HEA.out.len]; exact hb) HSPL.out.cr HEB.out HEC.out)
          ·
            have d3 : decide ((a : Int) < i) = false := by simp; omega
            have hs0 : Srt (fun x y => cm x y < 0) ca a md := by
              obtain rfl : a = i := by omega
              exact HSPL.out.s2
            obtain ⟨cb2, he, hs, ho, hg⟩ : ∃ cb2, Ed ca a md cb2 ∧ Srt (fun x y => cm x y < 0) cb2 a md ∧ OwnP _ base (.slice (some ⟨g, 0, none⟩) n c) cb2 ∧ w.grownBy _ (some g) := ⟨ca, .refl, hs0, HOA.out, HGA.out⟩
            clear hs0
            have HEB := Lib.hid he
            have HSB := Lib.hid hs
            have HOB := Lib.hid ho
            have HGB := Lib.hid hg
            clear he hs ho hg
            by_cases gc1 : md < t
            · by_cases gc2 : t < b
              ·
                have d5 : decide ((md : Int) < t) = true := by simp; omega
                have d6 : decide ((t : Int) < b) = true := by simp; omega
                go_wp2_with fail
                refine (HIH.out cb2 md t b _ HOB.out (HG0.out.trans HGB.out) (HEB.out.all (HEA.out.all HD.out)) (by omega) (by omega) (by rw [HEB.out.len, HEA.out.len]; exact hb) (by rw [HEB.out.len, HEA.out.len]; exact HLL.out) (HSPL.out.s3.out HEB.out (.inr (Nat.le_refl _))) (HSPL.out.s4.out HEB.out (.inr (by omega))) (by omega)).mono ?_
                rintro e x3 ⟨cc, rfl, he, hs, ho, hg⟩
                have HEC := Lib.hid he
                have HSC := Lib.hid hs
                have HOC := Lib.hid ho
                have HGC := Lib.hid (HGB.out.trans hg)
                clear he hs ho hg
                go_wp2
                refine bodyPost_ret (results_none rfl _ _ _) rfl ⟨cc, rfl, (HEA.out.trans (HEB.out.wide (Nat.le_refl _) (by omega))).trans (HEC.out.wide (by omega) (Nat.le_refl _)), ?_, HOC.out, HGC.out⟩
                exact Srt.glue (HSB.out.out HEC.out (.inl (Nat.le_refl _))) HSC.out (cross_ed (lt := fun x y => cm x y < 0) (by rw [HEA.out.len]; exact hb) HSPL.out.cr HEB.out HEC.out)
              ·
                have d5 : decide ((md : Int) < t) = true := by simp; omega
                have d6 : decide ((t : Int) < b) = false := by simp; omega
                have hs0 : Srt (fun x y => cm x y < 0) cb2 md b := by
                  obtain rfl : t = b := by omega
                  exact HSPL.out.s3.out HEB.out (.inr (Nat.le_refl _))
                obtain ⟨cc, he, hs, ho, hg⟩ : ∃ cc, Ed cb2 md b cc ∧ Srt (fun x y => cm x y < 0) cc md b ∧ OwnP _ base (.slice (some ⟨g, 0, none⟩) n c) cc ∧ w.grownBy _ (some g) := ⟨cb2, .refl, hs0, HOB.out, HGB.out⟩
                clear hs0
                have HEC := Lib.hid he
                have HSC := Lib.hid hs
                have HOC := Lib.hid ho
                have HGC := Lib.hid hg
                clear he hs ho hg
                go_wp2
                refine bodyPost_ret (results_none rfl _ _ _) rfl ⟨cc, rfl, (HEA.out.trans (HEB.out.wide (Nat.le_refl _) (by omega))).trans (HEC.out.wide (by omega) (Nat.le_refl _)), ?_, HOC.out, HGC.out⟩
                exact Srt.glue (HSB.out.out HEC.out (.inl (Nat.le_refl _))) HSC.out (cross_ed (lt := fun x y => cm x y < 0) (by rw [HEA.out.len]; exact hb) HSPL.out.cr HEB.out HEC.out)
            ·
              have d5 : decide ((md : Int) < t) = false := by simp; omega
              have hs0 : Srt (fun x y => cm x y < 0) cb2 md b := by
                obtain rfl : md = t := by omega
                exact HSPL.out.s4.out HEB.out (.inr (Nat.le_refl _))
              obtain ⟨cc, he, hs, ho, hg⟩ : ∃ cc, Ed cb2 md b cc ∧ Srt (fun x y => cm x y < 0) cc md b ∧ OwnP _ base (.slice (some ⟨g, 0, none⟩) n c) cc ∧ w.grownBy _ (some g) := ⟨cb2, .refl, hs0, HOB.out, HGB.out⟩
              clear hs0
              have HEC := Lib.hid he
              have HSC := Lib.hid hs
              have HOC := Lib.hid ho
              have HGC := Lib.hid hg
              clear he hs ho hg
              go_wp2
              refine bodyPost_ret (results_none rfl _ _ _) rfl ⟨cc, rfl, (HEA.out.trans (HEB.out.wide (Nat.le_refl _) (by omega))).trans (HEC.out.wide (by omega) (Nat.le_refl _)), ?_, HOC.out, HGC.out⟩
              exact Srt.glue (HSB.out.out HEC.out (.inl (Nat.le_refl _))) HSC.out (cross_ed (lt := fun x y => cm x y < 0) (by rw [HEA.out.len]; exact hb) HSPL.out.cr HEB.out HEC.out)
theorem symP_any (g c base n cb : Nat) (caps : Array Value) (D : Pt → Prop) (cm : Pt → Pt → Int) (w0 : World) (hcm : CmpOk cb caps ptV D cm w0 g) (hL : Lin D fun x y => cm x y < 0) : ∀ (N : Nat) (l : List Pt) (a m b : Nat) (w : World), OwnP w base (.slice (some ⟨g, 0, none⟩) n c) l → w0.grownBy w (some g) → All D l → a < m → m < b → b ≤ l.length → l.length < 1099511627776 → Srt (fun x y => cm x y < 0) l a m → Srt (fun x y => cm x y < 0) l m b → b - a ≤ N → Calls Tryz.prog 117 #[.slice (some ⟨g, 0, none⟩) n c, .int .i64 a, .int .i64 m, .int .i64 b, .func (.func cb) #[] caps] w (TurnedP l g c base n a b (fun l' => Srt (fun x y => cm x y < 0) l' a b) w) := by
  intro N
  induction N with
  | zero => intro l a m b w h hg0 hD ham hmb hb hl k1 k2 hN; exfalso; omega
  | succ N ih => intro l a m b w h hg0 hD ham hmb hb hl k1 k2 hN; exact symP_step g c base n cb caps D cm w0 hcm hL N ih l a m b w h hg0 hD ham hmb hb hl k1 k2 hN
set_option maxHeartbeats 8000000 in
theorem symN_one (g c base n cb : Nat) (caps : Array Value) (D : Int → Prop) (cm : Int → Int → Int) (w0 : World) (hcm : CmpOk cb caps (fun x : Int => Value.int .i64 x) D cm w0 g) (hL : Lin D fun x y => cm x y < 0) (l : List Int) (a m b : Nat) (w : World) (h : OwnN w base (.slice (some ⟨g, 0, none⟩) n c) l) (hg0 : w0.grownBy w (some g)) (hD : All D l) (ham : a < m) (hmb : m < b) (hb : b ≤ l.length) (hl : l.length < 1099511627776) (k1 : Srt (fun x y => cm x y < 0) l a m) (k2 : Srt (fun x y => cm x y < 0) l m b) (hm : a + 1 = m) : Calls Tryz.prog 119 #[.slice (some ⟨g, 0, none⟩) n c, .int .i64 a, .int .i64 m, .int .i64 b, .func (.func cb) #[] caps] w (TurnedN l g c base n a b (fun l' => Srt (fun x y => cm x y < 0) l' a b) w) := by
  have HC := Lib.hid hcm.1
  have hcall := hcm.2
  clear hcm
  have H := Lib.hid h
  have HN := Lib.hid h.n_eq
  have HLL := Lib.hid hl
  have HG0 := Lib.hid hg0
  have HD := Lib.hid hD
  have K1 := Lib.hid k1
  have K2 := Lib.hid k2
  clear h hg0 hD k1 k2
  subst hm
  have w1 : IntKind.i64.wrap (((a + 1 : Nat) : Int) - a) = 1 := by rw [IntWalk.i64_in _ (by omega)]; omega
  go_enter Tryz.func119, Tryz.ntmps119
  go_wp2
  go_loopw [10, 11] (fun iv jv wr => Bis (a + 1) (b) (fun i j => (a + 1 < i → cm (gt l (i - 1)) (gt l a) < 0) ∧ (j < b → ¬ cm (gt l j) (gt l a) < 0)) w iv jv wr) (fun iv jv _ => (intOf jv).toNat - (intOf iv).toNat)
  case atStart => exact ⟨a + 1, b, Nat.le_refl _, by omega, Nat.le_refl _, rfl, rfl, ⟨fun k => absurd k (Nat.lt_irrefl _), fun k => absurd k (Nat.lt_irrefl _)⟩, Kept.refl w⟩
  case round =>
    clear w1
    obtain ⟨i, j, hi, hij, hj, rfl, rfl, hci, hkw⟩ := hrel
    have HCI := Lib.hid hci
    have HKW := Lib.hid hkw
    have HO := Lib.hid (H.out.kept hkw)
    clear hci hkw
    by_cases hlt : i < j
    ·
      obtain ⟨h, hh⟩ : ∃ h, (i + j) / 2 = h := ⟨_, rfl⟩
      have hm : ((i : Int) + j) / 2 = (h : Int) := by omega
      have hh1 : i ≤ h := by omega
      have hh2 : h < j := by omega
      clear hh
      have h1 : h < l.length := by omega
      have h2 : a < l.length := by omega
      have hA := atN HO.out h1
      have hB := atN HO.out h2
      obtain ⟨x, hx⟩ : ∃ x, gt l h = x := ⟨_, rfl⟩
      obtain ⟨y, hy⟩ : ∃ y, gt l a = y := ⟨_, rfl⟩
      rw [hx] at hA
      rw [hy] at hB
      have ca0 := hA
      have cb0 := hB
      clear hA hB
      have hgl := lt_of_cell ca0
      have dx := HD.out _ h1
      have dy := HD.out _ h2
      rw [hx] at dx
      rw [hy] at dy
      obtain ⟨z, hz⟩ : ∃ z, cm x y = z := ⟨_, rfl⟩
      have i1 : h < n := by have := HN.out; omega
      have i2 : a < n := by have := HN.out; omega
      have HC2 : Hid (∀ W, Kept wr W → Calls Tryz.prog cb (#[.int .i64 x, .int .i64 y] ++ caps) W (Gives (.int .i64 z) W)) := Lib.hid fun W hk => by rw [← hz]; exact HC.out x y W dx dy (grownBy_kept HG0.out (HKW.out.trans hk))
      have HX := Lib.hid hx
      have HY := Lib.hid hy
      have HZ := Lib.hid hz
      clear hx hy hz
      go_wp2
      refine region_class (fun Z => Kept wr Z) 10 (by kernel_rfl) (by kernel_rfl) (Kept.refl _).drew ?_
      simp only [List.take_succ_cons, List.take_zero, List.drop_succ_cons, List.drop_zero]
      refine wpQuiet_yield (.func (.func cb) #[] caps) (by rfl) (fun Z hZ => ?_) ?_
      ·
        go_simp
      simp only [Act.put, List.setIfInBounds_toArray, List.set_cons_zero, List.set_cons_succ]
      refine wpQuiet_yield (.slice (some ⟨g, 0, none⟩) n c) (by rfl) (fun Z hZ => ?_) ?_
      ·
        go_simp
      simp only [Act.put, List.setIfInBounds_toArray, List.set_cons_zero, List.set_cons_succ]
      refine wpQuiet_yield (.int .i64 h) (by rfl) (fun Z hZ => ?_) ?_
      ·
        go_simp
      simp only [Act.put, List.setIfInBounds_toArray, List.set_cons_zero, List.set_cons_succ]
      refine wpQuiet_yield (.pointer (some ⟨g, h, none⟩)) (by rfl) (fun Z hZ => ?_) ?_
      ·
        go_simp
      simp only [Act.put, List.setIfInBounds_toArray, List.set_cons_zero, List.set_cons_succ]
      refine wpQuiet_yield (.int .i64 x) (by rfl) (fun Z hZ => ?_) ?_
      ·
        have r0 := hZ.cell ca0
        have rb := lt_of_cell r0
        go_simp
      simp only [Act.put, List.setIfInBounds_toArray, List.set_cons_zero, List.set_cons_succ]
      refine wpQuiet_yield (.slice (some ⟨g, 0, none⟩) n c) (by rfl) (fun Z hZ => ?_) ?_
      ·
        go_simp
      simp only [Act.put, List.setIfInBounds_toArray, List.set_cons_zero, List.set_cons_succ]
      refine wpQuiet_yield (.int .i64 a) (by rfl) (fun Z hZ => ?_) ?_
      ·
        go_simp
      simp only [Act.put, List.setIfInBounds_toArray, List.set_cons_zero, List.set_cons_succ]
      refine wpQuiet_yield (.pointer (some ⟨g, a, none⟩)) (by rfl) (fun Z hZ => ?_) ?_
      ·
        go_simp
      simp only [Act.put, List.setIfInBounds_toArray, List.set_cons_zero, List.set_cons_succ]
      refine wpQuiet_yield (.int .i64 y) (by rfl) (fun Z hZ => ?_) ?_
      ·
        have r0 := hZ.cell cb0
        have rb := lt_of_cell r0
        go_simp
      simp only [Act.put, List.setIfInBounds_toArray, List.set_cons_zero, List.set_cons_succ]
      refine wpQuiet_yield (.int .i64 z) (by rfl) (fun Z hZ => ?_) ?_
      ·
        go_simp
        have hF := HC2.out Z hZ
        exact hF.mono fun e Z' h => ⟨h.1, hZ.trans h.2⟩
      simp only [Act.put, List.setIfInBounds_toArray, List.set_cons_zero, List.set_cons_succ]
      refine wpQuiet_nil ?_
      intro X1 hk
      have HKX1 := Lib.hid hk
      clear hk
      by_cases hz : z < 0
      ·
        have HZ0 := Lib.hid hz
        have hzd : decide (z < 0) = true := decide_eq_true hz
        clear hz
        go_wp2
        refine ⟨⟨h + 1, j, by omega, by omega, by omega, by go_num, rfl, ⟨fun _ => by rw [show h + 1 - 1 = h by omega, HX.out, HY.out, HZ.out]; exact HZ0.out, fun h => by have := HCI.out.2 h; omega⟩, HKW.out.trans HKX1.out⟩, by simp [intOf]; omega⟩
      ·
        have HZ0 := Lib.hid hz
        have hzd : decide (z < 0) = false := decide_eq_false hz
        clear hz
        go_wp2
        refine ⟨⟨i, h, by omega, by omega, by omega, rfl, rfl, ⟨fun h => by have := HCI.out.1 h; omega, fun _ => by rw [HX.out, HY.out, HZ.out]; exact HZ0.out⟩, HKW.out.trans HKX1.out⟩, by simp [intOf]; omega⟩
    ·
      obtain rfl : i = j := by omega
      go_wp2
      clear hij hlt
      obtain ⟨e, he⟩ : ∃ e, i - 1 = e := ⟨_, rfl⟩
      have we : IntKind.i64.wrap ((i : Int) - 1) = (e : Int) := by rw [IntWalk.i64_in _ (by omega)]; omega
      have HE := Lib.hid he
      have hae : a ≤ e := by omega
      have heb : e + 1 ≤ b := by omega
      clear he
      go_loopw [13] (fun kv wr => ∃ (k : Nat) (cur : List Int), a ≤ k ∧ k ≤ e ∧ kv = .int .i64 k ∧ Ed l a b cur ∧ (∀ q, gt cur q = upF l a k q) ∧ OwnN wr base (.slice (some ⟨g, 0, none⟩) n c) cur ∧ w.grownBy wr (some g)) (fun kv _ => e - (intOf kv).toNat)
      case atStart => exact ⟨a, l, Nat.le_refl _, hae, rfl, .refl, fun q => upF_zero l a q, HO.out, grownBy_kept (grownBy_same _ _) HKW.out⟩
      case round =>
        clear HKW HO
        obtain ⟨k, cur, hk1, hk2, rfl, hed, hf, ho, hg⟩ := hrel
        have HED := Lib.hid hed
        have HF := Lib.hid hf
        have HO := Lib.hid ho
        have HG := Lib.hid hg
        have HCL := Lib.hid hed.len
        clear hed hf ho hg
        by_cases hlt : k < e
        ·
          obtain ⟨k1, hk⟩ : ∃ k1, k + 1 = k1 := ⟨_, rfl⟩
          have wk : IntKind.i64.wrap ((k : Int) + 1) = (k1 : Int) := by rw [IntWalk.i64_in _ (by omega)]; omega
          have HKJ := Lib.hid hk
          have h1 : k < cur.length := by rw [HCL.out]; omega
          have h2 : k1 < cur.length := by rw [HCL.out]; omega
          have i1 : k < n := by have := HN.out; omega
          have i2 : k1 < n := by have := HN.out; omega
          have n1 : ¬ k = k1 := by omega
          have n2 : ¬ k1 = k := by omega
          have hA := atN HO.out h1
          have hB := atN HO.out h2
          obtain ⟨x, hx⟩ : ∃ x, gt cur k = x := ⟨_, rfl⟩
          obtain ⟨y, hy⟩ : ∃ y, gt cur k1 = y := ⟨_, rfl⟩
          rw [hx] at hA
          rw [hy] at hB
          have ca0 := hA
          have cb0 := hB
          clear hA hB
          have hgl := lt_of_cell ca0
          have hst : ∀ q, gt (swapAt cur k k1) q = upF l a k1 q := by rw [← HKJ.out]; exact fun q => upF_step hk1 (by omega) HCL.out HF.out q
          have HST := Lib.hid hst
          clear hst
          have HED2 : Hid (Ed l a b (swapAt cur k k1)) := Lib.hid (.step HED.out (by omega) (by omega) (by omega) (by omega) (by rw [← HCL.out]; exact h1) (by rw [← HCL.out]; exact h2))
          have hS := swapN (X := wr) HO.out h1 h2
          rw [hx, hy] at hS
          have HS := Lib.hid hS
          have hfz := (HO.out).warm
          have fa0 := hfz (k)
          have fb0 := hfz (k1)
          clear hfz hS hx hy
          clear hk
          go_wp2
          go_region
          all_goals go_wp2
          have hkk := HKJ.out
          refine ⟨⟨k1, swapAt cur k k1, by omega, by omega, rfl, HED2.out, HST.out, HS.out.1, grownBy_drew (HG.out.trans HS.out.2)⟩, by simp [intOf]; omega⟩
        ·
          obtain rfl : k = e := by omega
          go_wp2
          refine bodyPost_ret (results_none rfl _ _ _) rfl ⟨cur, rfl, HED.out, up_srt hL HD.out hi hj hb K2.out HCI.out.1 (fun h => by have := HCI.out.2 h; omega) (by rw [HE.out]; exact HF.out), HO.out, HG.out⟩
set_option maxHeartbeats 8000000 in
theorem symN_last (g c base n cb : Nat) (caps : Array Value) (D : Int → Prop) (cm : Int → Int → Int) (w0 : World) (hcm : CmpOk cb caps (fun x : Int => Value.int .i64 x) D cm w0 g) (hL : Lin D fun x y => cm x y < 0) (l : List Int) (a m b : Nat) (w : World) (h : OwnN w base (.slice (some ⟨g, 0, none⟩) n c) l) (hg0 : w0.grownBy w (some g)) (hD : All D l) (ham : a < m) (hmb : m < b) (hb : b ≤ l.length) (hl : l.length < 1099511627776) (k1 : Srt (fun x y => cm x y < 0) l a m) (k2 : Srt (fun x y => cm x y < 0) l m b) (hm0 : ¬ a + 1 = m) (hm : m + 1 = b) : Calls Tryz.prog 119 #[.slice (some ⟨g, 0, none⟩) n c, .int .i64 a, .int .i64 m, .int .i64 b, .func (.func cb) #[] caps] w (TurnedN l g c base n a b (fun l' => Srt (fun x y => cm x y < 0) l' a b) w) := by
  have HC := Lib.hid hcm.1
  have hcall := hcm.2
  clear hcm
  have H := Lib.hid h
  have HN := Lib.hid h.n_eq
  have HLL := Lib.hid hl
  have HG0 := Lib.hid hg0
  have HD := Lib.hid hD
  have K1 := Lib.hid k1
  have K2 := Lib.hid k2
  clear h hg0 hD k1 k2
  subst hm
  have w1 : IntKind.i64.wrap ((m : Int) - a) = (m : Int) - a := IntWalk.i64_in _ (by omega)
  have w2 : IntKind.i64.wrap (((m + 1 : Nat) : Int) - m) = 1 := by rw [IntWalk.i64_in _ (by omega)]; omega
  have t1 : ((m : Int) - a == 1) = false := by simp; omega
  go_enter Tryz.func119, Tryz.ntmps119
  go_wp2
  go_loopw [14, 15] (fun iv jv wr => Bis (a) (m) (fun i j => (a < i → ¬ cm (gt l m) (gt l (i - 1)) < 0) ∧ (j < m → cm (gt l m) (gt l j) < 0)) w iv jv wr) (fun iv jv _ => (intOf jv).toNat - (intOf iv).toNat)
  case atStart => exact ⟨a, m, Nat.le_refl _, by omega, Nat.le_refl _, rfl, rfl, ⟨fun k => absurd k (Nat.lt_irrefl _), fun k => absurd k (Nat.lt_irrefl _)⟩, Kept.refl w⟩
  case round =>
    clear w1 w2 t1
    obtain ⟨i, j, hi, hij, hj, rfl, rfl, hci, hkw⟩ := hrel
    have HCI := Lib.hid hci
    have HKW := Lib.hid hkw
    have HO := Lib.hid (H.out.kept hkw)
    clear hci hkw
    by_cases hlt : i < j
    ·
      obtain ⟨h, hh⟩ : ∃ h, (i + j) / 2 = h := ⟨_, rfl⟩
      have hm : ((i : Int) + j) / 2 = (h : Int) := by omega
      have hh1 : i ≤ h := by omega
      have hh2 : h < j := by omega
      clear hh
      have h1 : h < l.length := by omega
      have h2 : m < l.length := by omega
      have hA := atN HO.out h2
      have hB := atN HO.out h1
      obtain ⟨x, hx⟩ : ∃ x, gt l m = x := ⟨_, rfl⟩
      obtain ⟨y, hy⟩ : ∃ y, gt l h = y := ⟨_, rfl⟩
      rw [hx] at hA
      rw [hy] at hB
      have ca0 := hA
      have cb0 := hB
      clear hA hB
      have hgl := lt_of_cell ca0
      have dx := HD.out _ h1
      have dy := HD.out _ h2
      rw [hy] at dx
      rw [hx] at dy
      obtain ⟨z, hz⟩ : ∃ z, cm x y = z := ⟨_, rfl⟩
      have i1 : h < n := by have := HN.out; omega
      have i2 : m < n := by have := HN.out; omega
      have HC2 : Hid (∀ W, Kept wr W → Calls Tryz.prog cb (#[.int .i64 x, .int .i64 y] ++ caps) W (Gives (.int .i64 z) W)) := Lib.hid fun W hk => by rw [← hz]; exact HC.out x y W dy dx (grownBy_kept HG0.out (HKW.out.trans hk))
      have HX := Lib.hid hx
      have HY := Lib.hid hy
      have HZ := Lib.hid hz
      clear hx hy hz
      go_wp2
      refine region_class (fun Z => Kept wr Z) 10 (by kernel_rfl) (by kernel_rfl) (Kept.refl _).drew ?_
      simp only [List.take_succ_cons, List.take_zero, List.drop_succ_cons, List.drop_zero]
      refine wpQuiet_yield (.func (.func cb) #[] caps) (by rfl) (fun Z hZ => ?_) ?_
      ·
        go_simp
      simp only [Act.put, List.setIfInBounds_toArray, List.set_cons_zero, List.set_cons_succ]
      refine wpQuiet_yield (.slice (some ⟨g, 0, none⟩) n c) (by rfl) (fun Z hZ => ?_) ?_
      ·
        go_simp
      simp only [Act.put, List.setIfInBounds_toArray, List.set_cons_zero, List.set_cons_succ]
      refine wpQuiet_yield (.int .i64 m) (by rfl) (fun Z hZ => ?_) ?_
      ·
        go_simp
      simp only [Act.put, List.setIfInBounds_toArray, List.set_cons_zero, List.set_cons_succ]
      refine wpQuiet_yield (.pointer (some ⟨g, m, none⟩)) (by rfl) (fun Z hZ => ?_) ?_
      ·
        go_simp
      simp only [Act.put, List.setIfInBounds_toArray, List.set_cons_zero, List.set_cons_succ]
      refine wpQuiet_yield (.int .i64 x) (by rfl) (fun Z hZ => ?_) ?_
      ·
        have r0 := hZ.cell ca0
        have rb := lt_of_cell r0
        go_simp
      simp only [Act.put, List.setIfInBounds_toArray, List.set_cons_zero, List.set_cons_succ]
      refine wpQuiet_yield (.slice (some ⟨g, 0, none⟩) n c) (by rfl) (fun Z hZ => ?_) ?_
      ·
        go_simp
      simp only [Act.put, List.setIfInBounds_toArray, List.set_cons_zero, List.set_cons_succ]
      refine wpQuiet_yield (.int .i64 h) (by rfl) (fun Z hZ => ?_) ?_
      ·
        go_simp
      simp only [Act.put, List.setIfInBounds_toArray, List.set_cons_zero, List.set_cons_succ]
      refine wpQuiet_yield (.pointer (some ⟨g, h, none⟩)) (by rfl) (fun Z hZ => ?_) ?_
      ·
        go_simp
      simp only [Act.put, List.setIfInBounds_toArray, List.set_cons_zero, List.set_cons_succ]
      refine wpQuiet_yield (.int .i64 y) (by rfl) (fun Z hZ => ?_) ?_
      ·
        have r0 := hZ.cell cb0
        have rb := lt_of_cell r0
        go_simp
      simp only [Act.put, List.setIfInBounds_toArray, List.set_cons_zero, List.set_cons_succ]
      refine wpQuiet_yield (.int .i64 z) (by rfl) (fun Z hZ => ?_) ?_
      ·
        go_simp
        have hF := HC2.out Z hZ
        exact hF.mono fun e Z' h => ⟨h.1, hZ.trans h.2⟩
      simp only [Act.put, List.setIfInBounds_toArray, List.set_cons_zero, List.set_cons_succ]
      refine wpQuiet_nil ?_
      intro X1 hk
      have HKX1 := Lib.hid hk
      clear hk
      by_cases hz : z < 0
      ·
        have HZ0 := Lib.hid hz
        have hzd : decide (z < 0) = true := decide_eq_true hz
        clear hz
        go_wp2
        refine ⟨⟨i, h, by omega, by omega, by omega, rfl, rfl, ⟨fun h => by have := HCI.out.1 h; omega, fun _ => by rw [HX.out, HY.out, HZ.out]; exact HZ0.out⟩, HKW.out.trans HKX1.out⟩, by simp [intOf]; omega⟩
      ·
        have HZ0 := Lib.hid hz
        have hzd : decide (z < 0) = false := decide_eq_false hz
        clear hz
        go_wp2
        refine ⟨⟨h + 1, j, by omega, by omega, by omega, by go_num, rfl, ⟨fun _ => by rw [show h + 1 - 1 = h by omega, HX.out, HY.out, HZ.out]; exact HZ0.out, fun h => by have := HCI.out.2 h; omega⟩, HKW.out.trans HKX1.out⟩, by simp [intOf]; omega⟩
    ·
      obtain rfl : i = j := by omega
      go_wp2
      clear hij hlt
      go_loopw [17] (fun kv wr => ∃ (k : Nat) (cur : List Int), i ≤ k ∧ k ≤ m ∧ kv = .int .i64 k ∧ Ed l a (m + 1) cur ∧ (∀ q, gt cur q = dnF l k m q) ∧ OwnN wr base (.slice (some ⟨g, 0, none⟩) n c) cur ∧ w.grownBy wr (some g)) (fun kv _ => (intOf kv).toNat)
      case atStart => exact ⟨m, l, hj, Nat.le_refl _, rfl, .refl, fun q => dnF_zero l m q, HO.out, grownBy_kept (grownBy_same _ _) HKW.out⟩
      case round =>
        clear HKW HO
        obtain ⟨k, cur, hk1, hk2, rfl, hed, hf, ho, hg⟩ := hrel
        have HED := Lib.hid hed
        have HF := Lib.hid hf
        have HO := Lib.hid ho
        have HG := Lib.hid hg
        have HCL := Lib.hid hed.len
        clear hed hf ho hg
        by_cases hlt : i < k
        ·
          obtain ⟨k1, hk⟩ : ∃ k1, k - 1 = k1 := ⟨_, rfl⟩
          have wk : IntKind.i64.wrap ((k : Int) - 1) = (k1 : Int) := by rw [IntWalk.i64_in _ (by omega)]; omega
          have HKJ := Lib.hid hk
          have h1 : k < cur.length := by rw [HCL.out]; omega
          have h2 : k1 < cur.length := by rw [HCL.out]; omega
          have i1 : k < n := by have := HN.out; omega
          have i2 : k1 < n := by have := HN.out; omega
          have n1 : ¬ k = k1 := by omega
          have n2 : ¬ k1 = k := by omega
          have hA := atN HO.out h1
          have hB := atN HO.out h2
          obtain ⟨x, hx⟩ : ∃ x, gt cur k = x := ⟨_, rfl⟩
          obtain ⟨y, hy⟩ : ∃ y, gt cur k1 = y := ⟨_, rfl⟩
          rw [hx] at hA
          rw [hy] at hB
          have ca0 := hA
          have cb0 := hB
          clear hA hB
          have hgl := lt_of_cell ca0
          have hst : ∀ q, gt (swapAt cur k k1) q = dnF l k1 m q := by rw [← HKJ.out]; exact fun q => dnF_step (by omega) hk2 (by omega) HCL.out HF.out q
          have HST := Lib.hid hst
          clear hst
          have HED2 : Hid (Ed l a (m + 1) (swapAt cur k k1)) := Lib.hid (.step HED.out (by omega) (by omega) (by omega) (by omega) (by rw [← HCL.out]; exact h1) (by rw [← HCL.out]; exact h2))
          have hS := swapN (X := wr) HO.out h1 h2
          rw [hx, hy] at hS
          have HS := Lib.hid hS
          have hfz := (HO.out).warm
          have fa0 := hfz (k)
          have fb0 := hfz (k1)
          clear hfz hS hx hy
          clear hk
          go_wp2
          go_region
          all_goals go_wp2
          have hkk := HKJ.out
          refine ⟨⟨k1, swapAt cur k k1, by omega, by omega, rfl, HED2.out, HST.out, HS.out.1, grownBy_drew (HG.out.trans HS.out.2)⟩, by simp [intOf]; omega⟩
        ·
          obtain rfl : k = i := by omega
          go_wp2
          refine bodyPost_ret (results_none rfl _ _ _) rfl ⟨cur, rfl, HED.out, dn_srt hL HD.out hi hj (by omega) K1.out (fun h => by have := HCI.out.1 h; omega) HCI.out.2 HF.out, HO.out, HG.out⟩
set_option maxHeartbeats 40000000 in
theorem symN_step (g c base n cb : Nat) (caps : Array Value) (D : Int → Prop) (cm : Int → Int → Int) (w0 : World) (hcm : CmpOk cb caps (fun x : Int => Value.int .i64 x) D cm w0 g) (hL : Lin D fun x y => cm x y < 0) (N : Nat) (ih : ∀ (l : List Int) (a m b : Nat) (w : World), OwnN w base (.slice (some ⟨g, 0, none⟩) n c) l → w0.grownBy w (some g) → All D l → a < m → m < b → b ≤ l.length → l.length < 1099511627776 → Srt (fun x y => cm x y < 0) l a m → Srt (fun x y => cm x y < 0) l m b → b - a ≤ N → Calls Tryz.prog 119 #[.slice (some ⟨g, 0, none⟩) n c, .int .i64 a, .int .i64 m, .int .i64 b, .func (.func cb) #[] caps] w (TurnedN l g c base n a b (fun l' => Srt (fun x y => cm x y < 0) l' a b) w)) (l : List Int) (a m b : Nat) (w : World) (h : OwnN w base (.slice (some ⟨g, 0, none⟩) n c) l) (hg0 : w0.grownBy w (some g)) (hD : All D l) (ham : a < m) (hmb : m < b) (hb : b ≤ l.length) (hl : l.length < 1099511627776) (k1 : Srt (fun x y => cm x y < 0) l a m) (k2 : Srt (fun x y => cm x y < 0) l m b) (hN : b - a ≤ N + 1) : Calls Tryz.prog 119 #[.slice (some ⟨g, 0, none⟩) n c, .int .i64 a, .int .i64 m, .int .i64 b, .func (.func cb) #[] caps] w (TurnedN l g c base n a b (fun l' => Srt (fun x y => cm x y < 0) l' a b) w) := by
  have HIH := Lib.hid ih
  clear ih
  by_cases hm : a + 1 = m
  · exact symN_one g c base n cb caps D cm w0 hcm hL l a m b w h hg0 hD ham hmb hb hl k1 k2 hm
  by_cases hm2 : m + 1 = b
  · exact symN_last g c base n cb caps D cm w0 hcm hL l a m b w h hg0 hD ham hmb hb hl k1 k2 hm hm2
  have HCM := Lib.hid hcm
  have HC := Lib.hid hcm.1
  have hcall := hcm.2
  clear hcm
  have H := Lib.hid h
  have HN := Lib.hid h.n_eq
  have HLL := Lib.hid hl
  have HG0 := Lib.hid hg0
  have HD := Lib.hid hD
  have K1 := Lib.hid k1
  have K2 := Lib.hid k2
  clear h hg0 hD k1 k2
  have w1 : IntKind.i64.wrap ((m : Int) - a) = (m : Int) - a := IntWalk.i64_in _ (by omega)
  have w2 : IntKind.i64.wrap ((b : Int) - m) = (b : Int) - m := IntWalk.i64_in _ (by omega)
  have t1 : ((m : Int) - a == 1) = false := by simp; omega
  have t2 : ((b : Int) - m == 1) = false := by simp; omega
  obtain ⟨md, hmd⟩ : ∃ md, (a + b) / 2 = md := ⟨_, rfl⟩
  have em : ((a : Int) + b) / 2 = (md : Int) := by omega
  obtain ⟨nn, hnn⟩ : ∃ nn, md + m = nn := ⟨_, rfl⟩
  have w3 : IntKind.i64.wrap ((md : Int) + m) = (nn : Int) := by rw [IntWalk.i64_in _ (by omega)]; omega
  obtain ⟨p, hp⟩ : ∃ p, nn - 1 = p := ⟨_, rfl⟩
  have w5 : IntKind.i64.wrap ((nn : Int) - 1) = (p : Int) := by rw [IntWalk.i64_in _ (by omega)]; omega
  obtain ⟨lo, r0, hcase⟩ : ∃ lo r0, (md < m ∧ lo = md + m - b ∧ r0 = md) ∨ (m ≤ md ∧ lo = a ∧ r0 = m) := by
    by_cases h : md < m
    · exact ⟨_, _, .inl ⟨h, rfl, rfl⟩⟩
    · exact ⟨_, _, .inr ⟨by omega, rfl, rfl⟩⟩
  have HCASE := Lib.hid hcase
  have HMD := Lib.hid hmd
  have HNN := Lib.hid hnn
  have HP := Lib.hid hp
  have hlo : lo ≤ r0 := by omega
  have hal : a ≤ lo := by omega
  have hr1 : r0 ≤ m := by omega
  have hr2 : r0 ≤ md := by omega
  have hpl : p < l.length + lo := by omega
  have hpr : r0 ≤ p + 1 := by omega
  have hmdl : md < b := by omega
  have hamd : a ≤ md := by omega
  have hlen : l.length < 1099511627776 := hl
  rcases hcase with ⟨c1, c2, c3⟩ | ⟨c1, c2, c3⟩
  ·
    have t3 : decide ((md : Int) < m) = true := by simp; omega
    have w4 : IntKind.i64.wrap ((nn : Int) - b) = (lo : Int) := by rw [IntWalk.i64_in _ (by omega)]; omega
    have C2 := Lib.hid c2
    have C3 := Lib.hid c3
    clear hmd hnn hp c2 c3
    go_enter Tryz.func119, Tryz.ntmps119
    go_wp2
    go_loopw [20, 21] (fun iv jv wr => Bis lo r0 (fun i j => (lo < i → ¬ cm (gt l (nn - i)) (gt l (i - 1)) < 0) ∧ (j < r0 → cm (gt l (p - j)) (gt l j) < 0)) w iv jv wr) (fun iv jv _ => (intOf jv).toNat - (intOf iv).toNat)
    case atStart => exact ⟨lo, r0, Nat.le_refl _, hlo, Nat.le_refl _, by first | rfl | rw [C2.out], by rw [C3.out], ⟨fun k => absurd k (Nat.lt_irrefl _), fun k => absurd k (Nat.lt_irrefl _)⟩, Kept.refl w⟩
    case round =>
      clear w1 w2 t1 t2 w3 w5 t3 w4
      obtain ⟨i, j, hi, hij, hj, rfl, rfl, hci, hkw⟩ := hrel
      have HCI := Lib.hid hci
      have HKW := Lib.hid hkw
      have HO := Lib.hid (H.out.kept hkw)
      clear hci hkw
      by_cases hlt : i < j
      ·
        obtain ⟨h, hh⟩ : ∃ h, (i + j) / 2 = h := ⟨_, rfl⟩
        have hm : ((i : Int) + j) / 2 = (h : Int) := by omega
        have hh1 : i ≤ h := by omega
        have hh2 : h < j := by omega
        clear hh
        obtain ⟨u, hu⟩ : ∃ u, p - h = u := ⟨_, rfl⟩
        have wu : IntKind.i64.wrap ((p : Int) - h) = (u : Int) := by rw [IntWalk.i64_in _ (by omega)]; omega
        have HU := Lib.hid hu
        have h1 : u < l.length := by omega
        have h2 : h < l.length := by omega
        clear hu
        have hA := atN HO.out h1
        have hB := atN HO.out h2
        obtain ⟨x, hx⟩ : ∃ x, gt l u = x := ⟨_, rfl⟩
        obtain ⟨y, hy⟩ : ∃ y, gt l h = y := ⟨_, rfl⟩
        rw [hx] at hA
        rw [hy] at hB
        have ca0 := hA
        have cb0 := hB
        clear hA hB
        have hgl := lt_of_cell ca0
        have dx := HD.out _ h1
        have dy := HD.out _ h2
        rw [hx] at dx
        rw [hy] at dy
        obtain ⟨z, hz⟩ : ∃ z, cm x y = z := ⟨_, rfl⟩
        have i1 : u < n := by have := HN.out; omega
        have i2 : h < n := by have := HN.out; omega
        have HC2 : Hid (∀ W, Kept wr W → Calls Tryz.prog cb (#[.int .i64 x, .int .i64 y] ++ caps) W (Gives (.int .i64 z) W)) := Lib.hid fun W hk => by rw [← hz]; exact HC.out x y W dx dy (grownBy_kept HG0.out (HKW.out.trans hk))
        have HX := Lib.hid hx
        have HY := Lib.hid hy
        have HZ := Lib.hid hz
        clear hx hy hz
        go_wp2
        refine region_class (fun Z => Kept wr Z) 12 (by kernel_rfl) (by kernel_rfl) (Kept.refl _).drew ?_
        simp only [List.take_succ_cons, List.take_zero, List.drop_succ_cons, List.drop_zero]
        refine wpQuiet_yield (.func (.func cb) #[] caps) (by rfl) (fun Z hZ => ?_) ?_
        ·
          go_simp
        simp only [Act.put, List.setIfInBounds_toArray, List.set_cons_zero, List.set_cons_succ]
        refine wpQuiet_yield (.slice (some ⟨g, 0, none⟩) n c) (by rfl) (fun Z hZ => ?_) ?_
        ·
          go_simp
        simp only [Act.put, List.setIfInBounds_toArray, List.set_cons_zero, List.set_cons_succ]
        refine wpQuiet_yield (.int .i64 p) (by rfl) (fun Z hZ => ?_) ?_
        ·
          go_simp
        simp only [Act.put, List.setIfInBounds_toArray, List.set_cons_zero, List.set_cons_succ]
        refine wpQuiet_yield (.int .i64 h) (by rfl) (fun Z hZ => ?_) ?_
        ·
          go_simp
        simp only [Act.put, List.setIfInBounds_toArray, List.set_cons_zero, List.set_cons_succ]
        refine wpQuiet_yield (.int .i64 u) (by rfl) (fun Z hZ => ?_) ?_
        ·
          go_simp
        simp only [Act.put, List.setIfInBounds_toArray, List.set_cons_zero, List.set_cons_succ]
        refine wpQuiet_yield (.pointer (some ⟨g, u, none⟩)) (by rfl) (fun Z hZ => ?_) ?_
        ·
          go_simp
        simp only [Act.put, List.setIfInBounds_toArray, List.set_cons_zero, List.set_cons_succ]
        refine wpQuiet_yield (.int .i64 x) (by rfl) (fun Z hZ => ?_) ?_
        ·
          have r0 := hZ.cell ca0
          have rb := lt_of_cell r0
          go_simp
        simp only [Act.put, List.setIfInBounds_toArray, List.set_cons_zero, List.set_cons_succ]
        refine wpQuiet_yield (.slice (some ⟨g, 0, none⟩) n c) (by rfl) (fun Z hZ => ?_) ?_
        ·
          go_simp
        simp only [Act.put, List.setIfInBounds_toArray, List.set_cons_zero, List.set_cons_succ]
        refine wpQuiet_yield (.int .i64 h) (by rfl) (fun Z hZ => ?_) ?_
        ·
          go_simp
        simp only [Act.put, List.setIfInBounds_toArray, List.set_cons_zero, List.set_cons_succ]
        refine wpQuiet_yield (.pointer (some ⟨g, h, none⟩)) (by rfl) (fun Z hZ => ?_) ?_
        ·
          go_simp
        simp only [Act.put, List.setIfInBounds_toArray, List.set_cons_zero, List.set_cons_succ]
        refine wpQuiet_yield (.int .i64 y) (by rfl) (fun Z hZ => ?_) ?_
        ·
          have r0 := hZ.cell cb0
          have rb := lt_of_cell r0
          go_simp
        simp only [Act.put, List.setIfInBounds_toArray, List.set_cons_zero, List.set_cons_succ]
        refine wpQuiet_yield (.int .i64 z) (by rfl) (fun Z hZ => ?_) ?_
        ·
          go_simp
          have hF := HC2.out Z hZ
          exact hF.mono fun e Z' h => ⟨h.1, hZ.trans h.2⟩
        simp only [Act.put, List.setIfInBounds_toArray, List.set_cons_zero, List.set_cons_succ]
        refine wpQuiet_nil ?_
        intro X1 hk
        have HKX1 := Lib.hid hk
        clear hk
        by_cases hz : z < 0
        ·
          have HZ0 := Lib.hid hz
          have hzd : decide (z < 0) = true := decide_eq_true hz
          clear hz
          go_wp2
          refine ⟨⟨i, h, by omega, by omega, by omega, rfl, rfl, ⟨fun h => by have := HCI.out.1 h; omega, fun _ => by rw [HU.out, HX.out, HY.out, HZ.out]; exact HZ0.out⟩, HKW.out.trans HKX1.out⟩, by simp [intOf]; omega⟩
        ·
          have HZ0 := Lib.hid hz
          have hzd : decide (z < 0) = false := decide_eq_false hz
          clear hz
          go_wp2
          refine ⟨⟨h + 1, j, by omega, by omega, by omega, by go_num, rfl, ⟨fun _ => by rw [show h + 1 - 1 = h by omega, show nn - (h + 1) = u by have := HU.out; have := HP.out; omega, HX.out, HY.out, HZ.out]; exact HZ0.out, fun h => by have := HCI.out.2 h; omega⟩, HKW.out.trans HKX1.out⟩, by simp [intOf]; omega⟩
      ·
        obtain rfl : i = j := by omega
        obtain ⟨t, ht⟩ : ∃ t, nn - i = t := ⟨_, rfl⟩
        have wt : IntKind.i64.wrap ((nn : Int) - i) = (t : Int) := by rw [IntWalk.i64_in _ (by have := HNN.out; omega)]; have := HNN.out; omega
        have HT := Lib.hid ht
        have b1 : a ≤ i := by omega
        have b7 : lo ≤ i := hi
        have b8 : i ≤ r0 := hj
        have b2 : i ≤ md := by omega
        have b3 : i ≤ m := by omega
        have b4 : m ≤ t := by have := HNN.out; omega
        have b5 : t ≤ b := by have := HCASE.out; have := HNN.out; omega
        have b6 : md ≤ t := by have := HNN.out; omega
        clear ht hi hij hj hlt
        have HSP : Hid (∀ c : List Int, (∀ q, gt c q = rotF (gt l) i m t q) → Split (fun x y => cm x y < 0) c a i md t b) := Lib.hid fun c hc => by
          have e : md + m - i = t := by rw [HNN.out]; exact HT.out
          have := split_of hL HD.out (s := i) (lo := lo) (r0 := r0) ham hmb hb HMD.out.symm HCASE.out (by omega) (by omega) K1.out K2.out (fun h => by have := HCI.out.1 h; rw [← HNN.out] at this; omega) (fun h => by have := HCI.out.2 h; rw [← HP.out, ← HNN.out] at this; exact this) (fun q => by rw [e]; exact hc q)
          rw [e] at this
          exact this
        by_cases ga1 : i < m
        · by_cases ga2 : m < t
          ·
            have d1 : decide ((i : Int) < m) = true := by simp; omega
            have d2 : decide ((m : Int) < t) = true := by simp; omega
            go_wp2_with fail
            refine (rotateN_any l g c base n i m t _ _ HO.out ga1 ga2 (by omega) HLL.out).mono ?_
            rintro e x1 ⟨ca, rfl, he, hs, ho, hg⟩
            have HEA : Hid (Ed l a b ca) := Lib.hid (he.wide b1 b5)
            have HSPL := Lib.hid (HSP.out ca hs)
            have HOA := Lib.hid ho
            have HGA := Lib.hid ((grownBy_kept (grownBy_same w (some g)) HKW.out).trans hg)
            clear he hs ho hg HKW HO
            by_cases gb1 : a < i
            · by_cases gb2 : i < md
              ·
                have d3 : decide ((a : Int) < i) = true := by simp; omega
                have d4 : decide ((i : Int) < md) = true := by simp; omega
                go_wp2_with fail
                refine (HIH.out ca a i md _ HOA.out (HG0.out.trans HGA.out) (HEA.out.all HD.out) (by omega) (by omega) (by rw [HEA.out.len]; omega) (by rw [HEA.out.len]; exact HLL.out) HSPL.out.s1 HSPL.out.s2 (by omega)).mono ?_
                rintro e x2 ⟨cb2, rfl, he, hs, ho, hg⟩
                have HEB := Lib.hid he
                have HSB := Lib.hid hs
                have HOB := Lib.hid ho
                have HGB := Lib.hid (HGA.out.trans hg)
                clear he hs ho hg
                by_cases gc1 : md < t
                · by_cases gc2 : t < b
                  ·
                    have d5 : decide ((md : Int) < t) = true := by simp; omega
                    have d6 : decide ((t : Int) < b) = true := by simp; omega
                    go_wp2_with fail
                    refine (HIH.out cb2 md t b _ HOB.out (HG0.out.trans HGB.out) (HEB.out.all (HEA.out.all HD.out)) (by omega) (by omega) (by rw [HEB.out.len, HEA.out.len]; exact hb) (by rw [HEB.out.len, HEA.out.len]; exact HLL.out) (HSPL.out.s3.out HEB.out (.inr (Nat.le_refl _))) (HSPL.out.s4.out HEB.out (.inr (by omega))) (by omega)).mono ?_
                    rintro e x3 ⟨cc, rfl, he, hs, ho, hg⟩
                    have HEC := Lib.hid he
                    have HSC := Lib.hid hs
                    have HOC := Lib.hid ho
                    have HGC := Lib.hid (HGB.out.trans hg)
                    clear he hs ho hg
                    go_wp2
                    refine bodyPost_ret (results_none rfl _ _ _) rfl ⟨cc, rfl, (HEA.out.trans (HEB.out.wide (Nat.le_refl _) (by omega))).trans (HEC.out.wide (by omega) (Nat.le_refl _)), ?_, HOC.out, HGC.out⟩
                    exact Srt.glue (HSB.out.out HEC.out (.inl (Nat.le_refl _))) HSC.out (cross_ed (lt := fun x y => cm x y < 0) (by rw [HEA.out.len]; exact hb) HSPL.out.cr HEB.out HEC.out)
                  ·
                    have d5 : decide ((md : Int) < t) = true := by simp; omega
                    have d6 : decide ((t : Int) < b) = false := by simp; omega
                    have hs0 : Srt (fun x y => cm x y < 0) cb2 md b := by
                      obtain rfl : t = b := by omega
                      exact HSPL.out.s3.out HEB.out (.inr (Nat.le_refl _))
                    obtain ⟨cc, he, hs, ho, hg⟩ : ∃ cc, Ed cb2 md b cc ∧ Srt (fun x y => cm x y < 0) cc md b ∧ OwnN _ base (.slice (some ⟨g, 0, none⟩) n c) cc ∧ w.grownBy _ (some g) := ⟨cb2, .refl, hs0, HOB.out, HGB.out⟩
                    clear hs0
                    have HEC := Lib.hid he
                    have HSC := Lib.hid hs
                    have HOC := Lib.hid ho
                    have HGC := Lib.hid hg
                    clear he hs ho hg
                    go_wp2
                    refine bodyPost_ret (results_none rfl _ _ _) rfl ⟨cc, rfl, (HEA.out.trans (HEB.out.wide (Nat.le_refl _) (by omega))).trans (HEC.out.wide (by omega) (Nat.le_refl _)), ?_, HOC.out, HGC.out⟩
                    exact Srt.glue (HSB.out.out HEC.out (.inl (Nat.le_refl _))) HSC.out (cross_ed (lt := fun x y => cm x y < 0) (by rw [HEA.out.len]; exact hb) HSPL.out.cr HEB.out HEC.out)
                ·
                  have d5 : decide ((md : Int) < t) = false := by simp; omega
                  have hs0 : Srt (fun x y => cm x y < 0) cb2 md b := by
                    obtain rfl : md = t := by omega
                    exact HSPL.out.s4.out HEB.out (.inr (Nat.le_refl _))
                  obtain ⟨cc, he, hs, ho, hg⟩ : ∃ cc, Ed cb2 md b cc ∧ Srt (fun x y => cm x y < 0) cc md b ∧ OwnN _ base (.slice (some ⟨g, 0, none⟩) n c) cc ∧ w.grownBy _ (some g) := ⟨cb2, .refl, hs0, HOB.out, HGB.out⟩
                  clear hs0
                  have HEC := Lib.hid he
                  have HSC := Lib.hid hs
                  have HOC := Lib.hid ho
                  have HGC := Lib.hid hg
                  clear he hs ho hg
                  go_wp2
                  refine bodyPost_ret (results_none rfl _ _ _) rfl ⟨cc, rfl, (HEA.out.trans (HEB.out.wide (Nat.le_refl _) (by omega))).trans (HEC.out.wide (by omega) (Nat.le_refl _)), ?_, HOC.out, HGC.out⟩
                  exact Srt.glue (HSB.out.out HEC.out (.inl (Nat.le_refl _))) HSC.out (cross_ed (lt := fun x y => cm x y < 0) (by rw [HEA.out.len]; exact hb) HSPL.out.cr HEB.out HEC.out)
              ·
                have d3 : decide ((a : Int) < i) = true := by simp; omega
                have d4 : decide ((i : Int) < md) = false := by simp; omega
                have hs0 : Srt (fun x y => cm x y < 0) ca a md := by
                  obtain rfl : i = md := by omega
                  exact HSPL.out.s1
                obtain ⟨cb2, he, hs, ho, hg⟩ : ∃ cb2, Ed ca a md cb2 ∧ Srt (fun x y => cm x y < 0) cb2 a md ∧ OwnN _ base (.slice (some ⟨g, 0, none⟩) n c) cb2 ∧ w.grownBy _ (some g) := ⟨ca, .refl, hs0, HOA.out, HGA.out⟩
                clear hs0
                have HEB := Lib.hid he
                have HSB := Lib.hid hs
                have HOB := Lib.hid ho
                have HGB := Lib.hid hg
                clear he hs ho hg
                by_cases gc1 : md < t
                · by_cases gc2 : t < b
                  ·
                    have d5 : decide ((md : Int) < t) = true := by simp; omega
                    have d6 : decide ((t : Int) < b) = true := by simp; omega
                    go_wp2_with fail
                    refine (HIH.out cb2 md t b _ HOB.out (HG0.out.trans HGB.out) (HEB.out.all (HEA.out.all HD.out)) (by omega) (by omega) (by rw [HEB.out.len, HEA.out.len]; exact hb) (by rw [HEB.out.len, HEA.out.len]; exact HLL.out) (HSPL.out.s3.out HEB.out (.inr (Nat.le_refl _))) (HSPL.out.s4.out HEB.out (.inr (by omega))) (by omega)).mono ?_
                    rintro e x3 ⟨cc, rfl, he, hs, ho, hg⟩
                    have HEC := Lib.hid he
                    have HSC := Lib.hid hs
                    have HOC := Lib.hid ho
                    have HGC := Lib.hid (HGB.out.trans hg)
                    clear he hs ho hg
                    go_wp2
                    refine bodyPost_ret (results_none rfl _ _ _) rfl ⟨cc, rfl, (HEA.out.trans (HEB.out.wide (Nat.le_refl _) (by omega))).trans (HEC.out.wide (by omega) (Nat.le_refl _)), ?_, HOC.out, HGC.out⟩
                    exact Srt.glue (HSB.out.out HEC.out (.inl (Nat.le_refl _))) HSC.out (cross_ed (lt := fun x y => cm x y < 0) (by rw [HEA.out.len]; exact hb) HSPL.out.cr HEB.out HEC.out)
                  ·
                    have d5 : decide ((md : Int) < t) = true := by simp; omega
                    have d6 : decide ((t : Int) < b) = false := by simp; omega
                    have hs0 : Srt (fun x y => cm x y < 0) cb2 md b := by
                      obtain rfl : t = b := by omega
                      exact HSPL.out.s3.out HEB.out (.inr (Nat.le_refl _))
                    obtain ⟨cc, he, hs, ho, hg⟩ : ∃ cc, Ed cb2 md b cc ∧ Srt (fun x y => cm x y < 0) cc md b ∧ OwnN _ base (.slice (some ⟨g, 0, none⟩) n c) cc ∧ w.grownBy _ (some g) := ⟨cb2, .refl, hs0, HOB.out, HGB.out⟩
                    clear hs0
                    have HEC := Lib.hid he
                    have HSC := Lib.hid hs
                    have HOC := Lib.hid ho
                    have HGC := Lib.hid hg
                    clear he hs ho hg
                    go_wp2
                    refine bodyPost_ret (results_none rfl _ _ _) rfl ⟨cc, rfl, (HEA.out.trans (HEB.out.wide (Nat.le_refl _) (by omega))).trans (HEC.out.wide (by omega) (Nat.le_refl _)), ?_, HOC.out, HGC.out⟩
                    exact Srt.glue (HSB.out.out HEC.out (.inl (Nat.le_refl _))) HSC.out (cross_ed (lt := fun x y => cm x y < 0) (by rw [HEA.out.len]; exact hb) HSPL.out.cr HEB.out HEC.out)
                ·
                  have d5 : decide ((md : Int) < t) = false := by simp; omega
                  have hs0 : Srt (fun x y => cm x y < 0) cb2 md b := by
                    obtain rfl : md = t := by omega
                    exact HSPL.out.s4.out HEB.out (.inr (Nat.le_refl _))
                  obtain ⟨cc, he, hs, ho, hg⟩ : ∃ cc, Ed cb2 md b cc ∧ Srt (fun x y => cm x y < 0) cc md b ∧ OwnN _ base (.slice (some ⟨g, 0, none⟩) n c) cc ∧ w.grownBy _ (some g) := ⟨cb2, .refl, hs0, HOB.out, HGB.out⟩
                  clear hs0
                  have HEC := Lib.hid he
                  have HSC := Lib.hid hs
                  have HOC := Lib.hid ho
                  have HGC := Lib.hid hg
                  clear he hs ho hg
                  go_wp2
                  refine bodyPost_ret (results_none rfl _ _ _) rfl ⟨cc, rfl, (HEA.out.trans (HEB.out.wide (Nat.le_refl _) (by omega))).trans (HEC.out.wide (by omega) (Nat.le_refl _)), ?_, HOC.out, HGC.out⟩
                  exact Srt.glue (HSB.out.out HEC.out (.inl (Nat.le_refl _))) HSC.out (cross_ed (lt := fun x y => cm x y < 0) (by rw [HEA.out.len]; exact hb) HSPL.out.cr HEB.out HEC.out)
            ·
              have d3 : decide ((a : Int) < i) = false := by simp; omega
              have hs0 : Srt (fun x y => cm x y < 0) ca a md := by
                obtain rfl : a = i := by omega
                exact HSPL.out.s2
              obtain ⟨cb2, he, hs, ho, hg⟩ : ∃ cb2, Ed ca a md cb2 ∧ Srt (fun x y => cm x y < 0) cb2 a md ∧ OwnN _ base (.slice (some ⟨g, 0, none⟩) n c) cb2 ∧ w.grownBy _ (some g) := ⟨ca, .refl, hs0, HOA.out, HGA.out⟩
              clear hs0
              have HEB := Lib.hid he
              have HSB := Lib.hid hs
              have HOB := Lib.hid ho
              have HGB := Lib.hid hg
              clear he hs ho hg
              by_cases gc1 : md < t
              · by_cases gc2 : t < b
                ·
                  have d5 : decide ((md : Int) < t) = true := by simp; omega
                  have d6 : decide ((t : Int) < b) = true := by simp; omega
                  go_wp2_with fail
                  refine (HIH.out cb2 md t b _ HOB.out (HG0.out.trans HGB.out) (HEB.out.all (HEA.out.all HD.out)) (by omega) (by omega) (by rw [HEB.out.len, HEA.out.len]; exact hb) (by rw [HEB.out.len, HEA.out.len]; exact HLL.out) (HSPL.out.s3.out HEB.out (.inr (Nat.le_refl _))) (HSPL.out.s4.out HEB.out (.inr (by omega))) (by omega)).mono ?_
                  rintro e x3 ⟨cc, rfl, he, hs, ho, hg⟩
                  have HEC := Lib.hid he
                  have HSC := Lib.hid hs
                  have HOC := Lib.hid ho
                  have HGC := Lib.hid (HGB.out.trans hg)
                  clear he hs ho hg
                  go_wp2
                  refine bodyPost_ret (results_none rfl _ _ _) rfl ⟨cc, rfl, (HEA.out.trans (HEB.out.wide (Nat.le_refl _) (by omega))).trans (HEC.out.wide (by omega) (Nat.le_refl _)), ?_, HOC.out, HGC.out⟩
                  exact Srt.glue (HSB.out.out HEC.out (.inl (Nat.le_refl _))) HSC.out (cross_ed (lt := fun x y => cm x y < 0) (by rw [HEA.out.len]; exact hb) HSPL.out.cr HEB.out HEC.out)
                ·
                  have d5 : decide ((md : Int) < t) = true := by simp; omega
                  have d6 : decide ((t : Int) < b) = false := by simp; omega
                  have hs0 : Srt (fun x y => cm x y < 0) cb2 md b := by
                    obtain rfl : t = b := by omega
                    exact HSPL.out.s3.out HEB.out (.inr (Nat.le_refl _))
                  obtain ⟨cc, he, hs, ho, hg⟩ : ∃ cc, Ed cb2 md b cc ∧ Srt (fun x y => cm x y < 0) cc md b ∧ OwnN _ base (.slice (some ⟨g, 0, none⟩) n c) cc ∧ w.grownBy _ (some g) := ⟨cb2, .refl, hs0, HOB.out, HGB.out⟩
                  clear hs0
                  have HEC := Lib.hid he
                  have HSC := Lib.hid hs
                  have HOC := Lib.hid ho
                  have HGC := Lib.hid hg
                  clear he hs ho hg
                  go_wp2
                  refine bodyPost_ret (results_none rfl _ _ _) rfl ⟨cc, rfl, (HEA.out.trans (HEB.out.wide (Nat.le_refl _) (by omega))).trans (HEC.out.wide (by omega) (Nat.le_refl _)), ?_, HOC.out, HGC.out⟩
                  exact Srt.glue (HSB.out.out HEC.out (.inl (Nat.le_refl _))) HSC.out (cross_ed (lt := fun x y => cm x y < 0) (by rw [HEA.out.len]; exact hb) HSPL.out.cr HEB.out HEC.out)
              ·
                have d5 : decide ((md : Int) < t) = false := by simp; omega
                have hs0 : Srt (fun x y => cm x y < 0) cb2 md b := by
                  obtain rfl : md = t := by omega
                  exact HSPL.out.s4.out HEB.out (.inr (Nat.le_refl _))
                obtain ⟨cc, he, hs, ho, hg⟩ : ∃ cc, Ed cb2 md b cc ∧ Srt (fun x y => cm x y < 0) cc md b ∧ OwnN _ base (.slice (some ⟨g, 0, none⟩) n c) cc ∧ w.grownBy _ (some g) := ⟨cb2, .refl, hs0, HOB.out, HGB.out⟩
                clear hs0
                have HEC := Lib.hid he
                have HSC := Lib.hid hs
                have HOC := Lib.hid ho
                have HGC := Lib.hid hg
                clear he hs ho hg
                go_wp2
                refine bodyPost_ret (results_none rfl _ _ _) rfl ⟨cc, rfl, (HEA.out.trans (HEB.out.wide (Nat.le_refl _) (by omega))).trans (HEC.out.wide (by omega) (Nat.le_refl _)), ?_, HOC.out, HGC.out⟩
                exact Srt.glue (HSB.out.out HEC.out (.inl (Nat.le_refl _))) HSC.out (cross_ed (lt := fun x y => cm x y < 0) (by rw [HEA.out.len]; exact hb) HSPL.out.cr HEB.out HEC.out)
          ·
            have d1 : decide ((i : Int) < m) = true := by simp; omega
            have d2 : decide ((m : Int) < t) = false := by simp; omega
            obtain ⟨ca, he, hs, ho, hg⟩ : ∃ ca, Ed l a b ca ∧ Split (fun x y => cm x y < 0) ca a i md t b ∧ OwnN wr base (.slice (some ⟨g, 0, none⟩) n c) ca ∧ w.grownBy wr (some g) := ⟨l, .refl, HSP.out l (rot_none b3 b4 (by omega)), HO.out, grownBy_kept (grownBy_same w (some g)) HKW.out⟩
            have HEA := Lib.hid he
            have HSPL := Lib.hid hs
            have HOA := Lib.hid ho
            have HGA := Lib.hid hg
            clear he hs ho hg HKW HO
            by_cases gb1 : a < i
            · by_cases gb2 : i < md
              ·
                have d3 : decide ((a : Int) < i) = true := by simp; omega
                have d4 : decide ((i : Int) < md) = true := by simp; omega
                go_wp2_with fail
                refine (HIH.out ca a i md _ HOA.out (HG0.out.trans HGA.out) (HEA.out.all HD.out) (by omega) (by omega) (by rw [HEA.out.len]; omega) (by rw [HEA.out.len]; exact HLL.out) HSPL.out.s1 HSPL.out.s2 (by omega)).mono ?_
                rintro e x2 ⟨cb2, rfl, he, hs, ho, hg⟩
                have HEB := Lib.hid he
                have HSB := Lib.hid hs
                have HOB := Lib.hid ho
                have HGB := Lib.hid (HGA.out.trans hg)
                clear he hs ho hg
                by_cases gc1 : md < t
                · by_cases gc2 : t < b
                  ·
                    have d5 : decide ((md : Int) < t) = true := by simp; omega
                    have d6 : decide ((t : Int) < b) = true := by simp; omega
                    go_wp2_with fail
                    refine (HIH.out cb2 md t b _ HOB.out (HG0.out.trans HGB.out) (HEB.out.all (HEA.out.all HD.out)) (by omega) (by omega) (by rw [HEB.out.len, HEA.out.len]; exact hb) (by rw [HEB.out.len, HEA.out.len]; exact HLL.out) (HSPL.out.s3.out HEB.out (.inr (Nat.le_refl _))) (HSPL.out.s4.out HEB.out (.inr (by omega))) (by omega)).mono ?_
                    rintro e x3 ⟨cc, rfl, he, hs, ho, hg⟩
                    have HEC := Lib.hid he
                    have HSC := Lib.hid hs
                    have HOC := Lib.hid ho
                    have HGC := Lib.hid (HGB.out.trans hg)
                    clear he hs ho hg
                    go_wp2
                    refine bodyPost_ret (results_none rfl _ _ _) rfl ⟨cc, rfl, (HEA.out.trans (HEB.out.wide (Nat.le_refl _) (by omega))).trans (HEC.out.wide (by omega) (Nat.le_refl _)), ?_, HOC.out, HGC.out⟩
                    exact Srt.glue (HSB.out.out HEC.out (.inl (Nat.le_refl _))) HSC.out (cross_ed (lt := fun x y => cm x y < 0) (by rw [HEA.out.len]; exact hb) HSPL.out.cr HEB.out HEC.out)
                  ·
                    have d5 : decide ((md : Int) < t) = true := by simp; omega
                    have d6 : decide ((t : Int) < b) = false := by simp; omega
                    have hs0 : Srt (fun x y => cm x y < 0) cb2 md b := by
                      obtain rfl : t = b := by omega
                      exact HSPL.out.s3.out HEB.out (.inr (Nat.le_refl _))
                    obtain ⟨cc, he, hs, ho, hg⟩ : ∃ cc, Ed cb2 md b cc ∧ Srt (fun x y => cm x y < 0) cc md b ∧ OwnN _ base (.slice (some ⟨g, 0, none⟩) n c) cc ∧ w.grownBy _ (some g) := ⟨cb2, .refl, hs0, HOB.out, HGB.out⟩
                    clear hs0
                    have HEC := Lib.hid he
                    have HSC := Lib.hid hs
                    have HOC := Lib.hid ho
                    have HGC := Lib.hid hg
                    clear he hs ho hg
                    go_wp2
                    refine bodyPost_ret (results_none rfl _ _ _) rfl ⟨cc, rfl, (HEA.out.trans (HEB.out.wide (Nat.le_refl _) (by omega))).trans (HEC.out.wide (by omega) (Nat.le_refl _)), ?_, HOC.out, HGC.out⟩
                    exact Srt.glue (HSB.out.out HEC.out (.inl (Nat.le_refl _))) HSC.out (cross_ed (lt := fun x y => cm x y < 0) (by rw [HEA.out.len]; exact hb) HSPL.out.cr HEB.out HEC.out)
                ·
                  have d5 : decide ((md : Int) < t) = false := by simp; omega
                  have hs0 : Srt (fun x y => cm x y < 0) cb2 md b := by
                    obtain rfl : md = t := by omega
                    exact HSPL.out.s4.out HEB.out (.inr (Nat.le_refl _))
                  obtain ⟨cc, he, hs, ho, hg⟩ : ∃ cc, Ed cb2 md b cc ∧ Srt (fun x y => cm x y < 0) cc md b ∧ OwnN _ base (.slice (some ⟨g, 0, none⟩) n c) cc ∧ w.grownBy _ (some g) := ⟨cb2, .refl, hs0, HOB.out, HGB.out⟩
                  clear hs0
                  have HEC := Lib.hid he
                  have HSC := Lib.hid hs
                  have HOC := Lib.hid ho
                  have HGC := Lib.hid hg
                  clear he hs ho hg
                  go_wp2
                  refine bodyPost_ret (results_none rfl _ _ _) rfl ⟨cc, rfl, (HEA.out.trans (HEB.out.wide (Nat.le_refl _) (by omega))).trans (HEC.out.wide (by omega) (Nat.le_refl _)), ?_, HOC.out, HGC.out⟩
                  exact Srt.glue (HSB.out.out HEC.out (.inl (Nat.le_refl _))) HSC.out (cross_ed (lt := fun x y => cm x y < 0) (by rw [HEA.out.len]; exact hb) HSPL.out.cr HEB.out HEC.out)
              ·
                have d3 : decide ((a : Int) < i) = true := by simp; omega
                have d4 : decide ((i : Int) < md) = false := by simp; omega
                have hs0 : Srt (fun x y => cm x y < 0) ca a md := by
                  obtain rfl : i = md := by omega
                  exact HSPL.out.s1
                obtain ⟨cb2, he, hs, ho, hg⟩ : ∃ cb2, Ed ca a md cb2 ∧ Srt (fun x y => cm x y < 0) cb2 a md ∧ OwnN _ base (.slice (some ⟨g, 0, none⟩) n c) cb2 ∧ w.grownBy _ (some g) := ⟨ca, .refl, hs0, HOA.out, HGA.out⟩
                clear hs0
                have HEB := Lib.hid he
                have HSB := Lib.hid hs
                have HOB := Lib.hid ho
                have HGB := Lib.hid hg
                clear he hs ho hg
                by_cases gc1 : md < t
                · by_cases gc2 : t < b
                  ·
                    have d5 : decide ((md : Int) < t) = true := by simp; omega
                    have d6 : decide ((t : Int) < b) = true := by simp; omega
                    go_wp2_with fail
                    refine (HIH.out cb2 md t b _ HOB.out (HG0.out.trans HGB.out) (HEB.out.all (HEA.out.all HD.out)) (by omega) (by omega) (by rw [HEB.out.len, HEA.out.len]; exact hb) (by rw [HEB.out.len, HEA.out.len]; exact HLL.out) (HSPL.out.s3.out HEB.out (.inr (Nat.le_refl _))) (HSPL.out.s4.out HEB.out (.inr (by omega))) (by omega)).mono ?_
                    rintro e x3 ⟨cc, rfl, he, hs, ho, hg⟩
                    have HEC := Lib.hid he
                    have HSC := Lib.hid hs
                    have HOC := Lib.hid ho
                    have HGC := Lib.hid (HGB.out.trans hg)
                    clear he hs ho hg
                    go_wp2
                    refine bodyPost_ret (results_none rfl _ _ _) rfl ⟨cc, rfl, (HEA.out.trans (HEB.out.wide (Nat.le_refl _) (by omega))).trans (HEC.out.wide (by omega) (Nat.le_refl _)), ?_, HOC.out, HGC.out⟩
                    exact Srt.glue (HSB.out.out HEC.out (.inl (Nat.le_refl _))) HSC.out (cross_ed (lt := fun x y => cm x y < 0) (by rw [HEA.out.len]; exact hb) HSPL.out.cr HEB.out HEC.out)
                  ·
                    have d5 : decide ((md : Int) < t) = true := by simp; omega
                    have d6 : decide ((t : Int) < b) = false := by simp; omega
                    have hs0 : Srt (fun x y => cm x y < 0) cb2 md b := by
                      obtain rfl : t = b := by omega
                      exact HSPL.out.s3.out HEB.out (.inr (Nat.le_refl _))
                    obtain ⟨cc, he, hs, ho, hg⟩ : ∃ cc, Ed cb2 md b cc ∧ Srt (fun x y => cm x y < 0) cc md b ∧ OwnN _ base (.slice (some ⟨g, 0, none⟩) n c) cc ∧ w.grownBy _ (some g) := ⟨cb2, .refl, hs0, HOB.out, HGB.out⟩
                    clear hs0
                    have HEC := Lib.hid he
                    have HSC := Lib.hid hs
                    have HOC := Lib.hid ho
                    have HGC := Lib.hid hg
                    clear he hs ho hg
                    go_wp2
                    refine bodyPost_ret (results_none rfl _ _ _) rfl ⟨cc, rfl, (HEA.out.trans (HEB.out.wide (Nat.le_refl _) (by omega))).trans (HEC.out.wide (by omega) (Nat.le_refl _)), ?_, HOC.out, HGC.out⟩
                    exact Srt.glue (HSB.out.out HEC.out (.inl (Nat.le_refl _))) HSC.out (cross_ed (lt := fun x y => cm x y < 0) (by rw [HEA.out.len]; exact hb) HSPL.out.cr HEB.out HEC.out)
                ·
                  have d5 : decide ((md : Int) < t) = false := by simp; omega
                  have hs0 : Srt (fun x y => cm x y < 0) cb2 md b := by
                    obtain rfl : md = t := by omega
                    exact HSPL.out.s4.out HEB.out (.inr (Nat.le_refl _))
                  obtain ⟨cc, he, hs, ho, hg⟩ : ∃ cc, Ed cb2 md b cc ∧ Srt (fun x y => cm x y < 0) cc md b ∧ OwnN _ base (.slice (some ⟨g, 0, none⟩) n c) cc ∧ w.grownBy _ (some g) := ⟨cb2, .refl, hs0, HOB.out, HGB.out⟩
                  clear hs0
                  have HEC := Lib.hid he
                  have HSC := Lib.hid hs
                  have HOC := Lib.hid ho
                  have HGC := Lib.hid hg
                  clear he hs ho hg
                  go_wp2
                  refine bodyPost_ret (results_none rfl _ _ _) rfl ⟨cc, rfl, (HEA.out.trans (HEB.out.wide (Nat.le_refl _) (by omega))).trans (HEC.out.wide (by omega) (Nat.le_refl _)), ?_, HOC.out, HGC.out⟩
                  exact Srt.glue (HSB.out.out HEC.out (.inl (Nat.le_refl _))) HSC.out (cross_ed (lt := fun x y => cm x y < 0) (by rw [HEA.out.len]; exact hb) HSPL.out.cr HEB.out HEC.out)
            ·
              have d3 : decide ((a : Int) < i) = false := by simp; omega
              have hs0 : Srt (fun x y => cm x y < 0) ca a md := by
                obtain rfl : a = i := by omega
                exact HSPL.out.s2
              obtain ⟨cb2, he, hs, ho, hg⟩ : ∃ cb2, Ed ca a md cb2 ∧ Srt (fun x y => cm x y < 0) cb2 a md ∧ OwnN _ base (.slice (some ⟨g, 0, none⟩) n c) cb2 ∧ w.grownBy _ (some g) := ⟨ca, .refl, hs0, HOA.out, HGA.out⟩
              clear hs0
              have HEB := Lib.hid he
              have HSB := Lib.hid hs
              have HOB := Lib.hid ho
              have HGB := Lib.hid hg
              clear he hs ho hg
              by_cases gc1 : md < t
              · by_cases gc2 : t < b
                ·
                  have d5 : decide ((md : Int) < t) = true := by simp; omega
                  have d6 : decide ((t : Int) < b) = true := by simp; omega
                  go_wp2_with fail
                  refine (HIH.out cb2 md t b _ HOB.out (HG0.out.trans HGB.out) (HEB.out.all (HEA.out.all HD.out)) (by omega) (by omega) (by rw [HEB.out.len, HEA.out.len]; exact hb) (by rw [HEB.out.len, HEA.out.len]; exact HLL.out) (HSPL.out.s3.out HEB.out (.inr (Nat.le_refl _))) (HSPL.out.s4.out HEB.out (.inr (by omega))) (by omega)).mono ?_
                  rintro e x3 ⟨cc, rfl, he, hs, ho, hg⟩
                  have HEC := Lib.hid he
                  have HSC := Lib.hid hs
                  have HOC := Lib.hid ho
                  have HGC := Lib.hid (HGB.out.trans hg)
                  clear he hs ho hg
                  go_wp2
                  refine bodyPost_ret (results_none rfl _ _ _) rfl ⟨cc, rfl, (HEA.out.trans (HEB.out.wide (Nat.le_refl _) (by omega))).trans (HEC.out.wide (by omega) (Nat.le_refl _)), ?_, HOC.out, HGC.out⟩
                  exact Srt.glue (HSB.out.out HEC.out (.inl (Nat.le_refl _))) HSC.out (cross_ed (lt := fun x y => cm x y < 0) (by rw [HEA.out.len]; exact hb) HSPL.out.cr HEB.out HEC.out)
                ·
                  have d5 : decide ((md : Int) < t) = true := by simp; omega
                  have d6 : decide ((t : Int) < b) = false := by simp; omega
                  have hs0 : Srt (fun x y => cm x y < 0) cb2 md b := by
                    obtain rfl : t = b := by omega
                    exact HSPL.out.s3.out HEB.out (.inr (Nat.le_refl _))
                  obtain ⟨cc, he, hs, ho, hg⟩ : ∃ cc, Ed cb2 md b cc ∧ Srt (fun x y => cm x y < 0) cc md b ∧ OwnN _ base (.slice (some ⟨g, 0, none⟩) n c) cc ∧ w.grownBy _ (some g) := ⟨cb2, .refl, hs0, HOB.out, HGB.out⟩
                  clear hs0
                  have HEC := Lib.hid he
                  have HSC := Lib.hid hs
                  have HOC := Lib.hid ho
                  have HGC := Lib.hid hg
                  clear he hs ho hg
                  go_wp2
                  refine bodyPost_ret (results_none rfl _ _ _) rfl ⟨cc, rfl, (HEA.out.trans (HEB.out.wide (Nat.le_refl _) (by omega))).trans (HEC.out.wide (by omega) (Nat.le_refl _)), ?_, HOC.out, HGC.out⟩
                  exact Srt.glue (HSB.out.out HEC.out (.inl (Nat.le_refl _))) HSC.out (cross_ed (lt := fun x y => cm x y < 0) (by rw [HEA.out.len]; exact hb) HSPL.out.cr HEB.out HEC.out)
              ·
                have d5 : decide ((md : Int) < t) = false := by simp; omega
                have hs0 : Srt (fun x y => cm x y < 0) cb2 md b := by
                  obtain rfl : md = t := by omega
                  exact HSPL.out.s4.out HEB.out (.inr (Nat.le_refl _))
                obtain ⟨cc, he, hs, ho, hg⟩ : ∃ cc, Ed cb2 md b cc ∧ Srt (fun x y => cm x y < 0) cc md b ∧ OwnN _ base (.slice (some ⟨g, 0, none⟩) n c) cc ∧ w.grownBy _ (some g) := ⟨cb2, .refl, hs0, HOB.out, HGB.out⟩
                clear hs0
                have HEC := Lib.hid he
                have HSC := Lib.hid hs
                have HOC := Lib.hid ho
                have HGC := Lib.hid hg
                clear he hs ho hg
                go_wp2
                refine bodyPost_ret (results_none rfl _ _ _) rfl ⟨cc, rfl, (HEA.out.trans (HEB.out.wide (Nat.le_refl _) (by omega))).trans (HEC.out.wide (by omega) (Nat.le_refl _)), ?_, HOC.out, HGC.out⟩
                exact Srt.glue (HSB.out.out HEC.out (.inl (Nat.le_refl _))) HSC.out (cross_ed (lt := fun x y => cm x y < 0) (by rw [HEA.out.len]; exact hb) HSPL.out.cr HEB.out HEC.out)
        ·
          have d1 : decide ((i : Int) < m) = false := by simp; omega
          obtain ⟨ca, he, hs, ho, hg⟩ : ∃ ca, Ed l a b ca ∧ Split (fun x y => cm x y < 0) ca a i md t b ∧ OwnN wr base (.slice (some ⟨g, 0, none⟩) n c) ca ∧ w.grownBy wr (some g) := ⟨l, .refl, HSP.out l (rot_none b3 b4 (by omega)), HO.out, grownBy_kept (grownBy_same w (some g)) HKW.out⟩
          have HEA := Lib.hid he
          have HSPL := Lib.hid hs
          have HOA := Lib.hid ho
          have HGA := Lib.hid hg
          clear he hs ho hg HKW HO
          by_cases gb1 : a < i
          · by_cases gb2 : i < md
            ·
              have d3 : decide ((a : Int) < i) = true := by simp; omega
              have d4 : decide ((i : Int) < md) = true := by simp; omega
              go_wp2_with fail
              refine (HIH.out ca a i md _ HOA.out (HG0.out.trans HGA.out) (HEA.out.all HD.out) (by omega) (by omega) (by rw [HEA.out.len]; omega) (by rw [HEA.out.len]; exact HLL.out) HSPL.out.s1 HSPL.out.s2 (by omega)).mono ?_
              rintro e x2 ⟨cb2, rfl, he, hs, ho, hg⟩
              have HEB := Lib.hid he
              have HSB := Lib.hid hs
              have HOB := Lib.hid ho
              have HGB := Lib.hid (HGA.out.trans hg)
              clear he hs ho hg
              by_cases gc1 : md < t
              · by_cases gc2 : t < b
                ·
                  have d5 : decide ((md : Int) < t) = true := by simp; omega
                  have d6 : decide ((t : Int) < b) = true := by simp; omega
                  go_wp2_with fail
                  refine (HIH.out cb2 md t b _ HOB.out (HG0.out.trans HGB.out) (HEB.out.all (HEA.out.all HD.out)) (by omega) (by omega) (by rw [HEB.out.len, HEA.out.len]; exact hb) (by rw [HEB.out.len, HEA.out.len]; exact HLL.out) (HSPL.out.s3.out HEB.out (.inr (Nat.le_refl _))) (HSPL.out.s4.out HEB.out (.inr (by omega))) (by omega)).mono ?_
                  rintro e x3 ⟨cc, rfl, he, hs, ho, hg⟩
                  have HEC := Lib.hid he
                  have HSC := Lib.hid hs
                  have HOC := Lib.hid ho
                  have HGC := Lib.hid (HGB.out.trans hg)
                  clear he hs ho hg
                  go_wp2
                  refine bodyPost_ret (results_none rfl _ _ _) rfl ⟨cc, rfl, (HEA.out.trans (HEB.out.wide (Nat.le_refl _) (by omega))).trans (HEC.out.wide (by omega) (Nat.le_refl _)), ?_, HOC.out, HGC.out⟩
                  exact Srt.glue (HSB.out.out HEC.out (.inl (Nat.le_refl _))) HSC.out (cross_ed (lt := fun x y => cm x y < 0) (by rw [HEA.out.len]; exact hb) HSPL.out.cr HEB.out HEC.out)
                ·
                  have d5 : decide ((md : Int) < t) = true := by simp; omega
                  have d6 : decide ((t : Int) < b) = false := by simp; omega
                  have hs0 : Srt (fun x y => cm x y < 0) cb2 md b := by
                    obtain rfl : t = b := by omega
                    exact HSPL.out.s3.out HEB.out (.inr (Nat.le_refl _))
                  obtain ⟨cc, he, hs, ho, hg⟩ : ∃ cc, Ed cb2 md b cc ∧ Srt (fun x y => cm x y < 0) cc md b ∧ OwnN _ base (.slice (some ⟨g, 0, none⟩) n c) cc ∧ w.grownBy _ (some g) := ⟨cb2, .refl, hs0, HOB.out, HGB.out⟩
                  clear hs0
                  have HEC := Lib.hid he
                  have HSC := Lib.hid hs
                  have HOC := Lib.hid ho
                  have HGC := Lib.hid hg
                  clear he hs ho hg
                  go_wp2
                  refine bodyPost_ret (results_none rfl _ _ _) rfl ⟨cc, rfl, (HEA.out.trans (HEB.out.wide (Nat.le_refl _) (by omega))).trans (HEC.out.wide (by omega) (Nat.le_refl _)), ?_, HOC.out, HGC.out⟩
                  exact Srt.glue (HSB.out.out HEC.out (.inl (Nat.le_refl _))) HSC.out (cross_ed (lt := fun x y => cm x y < 0) (by rw [HEA.out.len]; exact hb) HSPL.out.cr HEB.out HEC.out)
              ·
                have d5 : decide ((md : Int) < t) = false := by simp; omega
                have hs0 : Srt (fun x y => cm x y < 0) cb2 md b := by
                  obtain rfl : md = t := by omega
                  exact HSPL.out.s4.out HEB.out (.inr (Nat.le_refl _))
                obtain ⟨cc, he, hs, ho, hg⟩ : ∃ cc, Ed cb2 md b cc ∧ Srt (fun x y => cm x y < 0) cc md b ∧ OwnN _ base (.slice (some ⟨g, 0, none⟩) n c) cc ∧ w.grownBy _ (some g) := ⟨cb2, .refl, hs0, HOB.out, HGB.out⟩
                clear hs0
                have HEC := Lib.hid he
                have HSC := Lib.hid hs
                have HOC := Lib.hid ho
                have HGC := Lib.hid hg
                clear he hs ho hg
                go_wp2
                refine bodyPost_ret (results_none rfl _ _ _) rfl ⟨cc, rfl, (HEA.out.trans (HEB.out.wide (Nat.le_refl _) (by omega))).trans (HEC.out.wide (by omega) (Nat.le_refl _)), ?_, HOC.out, HGC.out⟩
                exact Srt.glue (HSB.out.out HEC.out (.inl (Nat.le_refl _))) HSC.out (cross_ed (lt := fun x y => cm x y < 0) (by rw [HEA.out.len]; exact hb) HSPL.out.cr HEB.out HEC.out)
            ·
              have d3 : decide ((a : Int) < i) = true := by simp; omega
              have d4 : decide ((i : Int) < md) = false := by simp; omega
              have hs0 : Srt (fun x y => cm x y < 0) ca a md := by
                obtain rfl : i = md := by omega
                exact HSPL.out.s1
              obtain ⟨cb2, he, hs, ho, hg⟩ : ∃ cb2, Ed ca a md cb2 ∧ Srt (fun x y => cm x y < 0) cb2 a md ∧ OwnN _ base (.slice (some ⟨g, 0, none⟩) n c) cb2 ∧ w.grownBy _ (some g) := ⟨ca, .refl, hs0, HOA.out, HGA.out⟩
              clear hs0
              have HEB := Lib.hid he
              have HSB := Lib.hid hs
              have HOB := Lib.hid ho
              have HGB := Lib.hid hg
              clear he hs ho hg
              by_cases gc1 : md < t
              · by_cases gc2 : t < b
                ·
                  have d5 : decide ((md : Int) < t) = true := by simp; omega
                  have d6 : decide ((t : Int) < b) = true := by simp; omega
                  go_wp2_with fail
                  refine (HIH.out cb2 md t b _ HOB.out (HG0.out.trans HGB.out) (HEB.out.all (HEA.out.all HD.out)) (by omega) (by omega) (by rw [HEB.out.len, HEA.out.len]; exact hb) (by rw [HEB.out.len, HEA.out.len]; exact HLL.out) (HSPL.out.s3.out HEB.out (.inr (Nat.le_refl _))) (HSPL.out.s4.out HEB.out (.inr (by omega))) (by omega)).mono ?_
                  rintro e x3 ⟨cc, rfl, he, hs, ho, hg⟩
                  have HEC := Lib.hid he
                  have HSC := Lib.hid hs
                  have HOC := Lib.hid ho
                  have HGC := Lib.hid (HGB.out.trans hg)
                  clear he hs ho hg
                  go_wp2
                  refine bodyPost_ret (results_none rfl _ _ _) rfl ⟨cc, rfl, (HEA.out.trans (HEB.out.wide (Nat.le_refl _) (by omega))).trans (HEC.out.wide (by omega) (Nat.le_refl _)), ?_, HOC.out, HGC.out⟩
                  exact Srt.glue (HSB.out.out HEC.out (.inl (Nat.le_refl _))) HSC.out (cross_ed (lt := fun x y => cm x y < 0) (by rw [HEA.out.len]; exact hb) HSPL.out.cr HEB.out HEC.out)
                ·
                  have d5 : decide ((md : Int) < t) = true := by simp; omega
                  have d6 : decide ((t : Int) < b) = false := by simp; omega
                  have hs0 : Srt (fun x y => cm x y < 0) cb2 md b := by
                    obtain rfl : t = b := by omega
                    exact HSPL.out.s3.out HEB.out (.inr (Nat.le_refl _))
                  obtain ⟨cc, he, hs, ho, hg⟩ : ∃ cc, Ed cb2 md b cc ∧ Srt (fun x y => cm x y < 0) cc md b ∧ OwnN _ base (.slice (some ⟨g, 0, none⟩) n c) cc ∧ w.grownBy _ (some g) := ⟨cb2, .refl, hs0, HOB.out, HGB.out⟩
                  clear hs0
                  have HEC := Lib.hid he
                  have HSC := Lib.hid hs
                  have HOC := Lib.hid ho
                  have HGC := Lib.hid hg
                  clear he hs ho hg
                  go_wp2
                  refine bodyPost_ret (results_none rfl _ _ _) rfl ⟨cc, rfl, (HEA.out.trans (HEB.out.wide (Nat.le_refl _) (by omega))).trans (HEC.out.wide (by omega) (Nat.le_refl _)), ?_, HOC.out, HGC.out⟩
                  exact Srt.glue (HSB.out.out HEC.out (.inl (Nat.le_refl _))) HSC.out (cross_ed (lt := fun x y => cm x y < 0) (by rw [HEA.out.len]; exact hb) HSPL.out.cr HEB.out HEC.out)
              ·
                have d5 : decide ((md : Int) < t) = false := by simp; omega
                have hs0 : Srt (fun x y => cm x y < 0) cb2 md b := by
                  obtain rfl : md = t := by omega
                  exact HSPL.out.s4.out HEB.out (.inr (Nat.le_refl _))
                obtain ⟨cc, he, hs, ho, hg⟩ : ∃ cc, Ed cb2 md b cc ∧ Srt (fun x y => cm x y < 0) cc md b ∧ OwnN _ base (.slice (some ⟨g, 0, none⟩) n c) cc ∧ w.grownBy _ (some g) := ⟨cb2, .refl, hs0, HOB.out, HGB.out⟩
                clear hs0
                have HEC := Lib.hid he
                have HSC := Lib.hid hs
                have HOC := Lib.hid ho
                have HGC := Lib.hid hg
                clear he hs ho hg
                go_wp2
                refine bodyPost_ret (results_none rfl _ _ _) rfl ⟨cc, rfl, (HEA.out.trans (HEB.out.wide (Nat.le_refl _) (by omega))).trans (HEC.out.wide (by omega) (Nat.le_refl _)), ?_, HOC.out, HGC.out⟩
                exact Srt.glue (HSB.out.out HEC.out (.inl (Nat.le_refl _))) HSC.out (cross_ed (lt := fun x y => cm x y < 0) (by rw [HEA.out.len]; exact hb) HSPL.out.cr HEB.out HEC.out)
          ·
            have d3 : decide ((a : Int) < i) = false := by simp; omega
            have hs0 : Srt (fun x y => cm x y < 0) ca a md := by
              obtain rfl : a = i := by omega
              exact HSPL.out.s2
            obtain ⟨cb2, he, hs, ho, hg⟩ : ∃ cb2, Ed ca a md cb2 ∧ Srt (fun x y => cm x y < 0) cb2 a md ∧ OwnN _ base (.slice (some ⟨g, 0, none⟩) n c) cb2 ∧ w.grownBy _ (some g) := ⟨ca, .refl, hs0, HOA.out, HGA.out⟩
            clear hs0
            have HEB := Lib.hid he
            have HSB := Lib.hid hs
            have HOB := Lib.hid ho
            have HGB := Lib.hid hg
            clear he hs ho hg
            by_cases gc1 : md < t
            · by_cases gc2 : t < b
              ·
                have d5 : decide ((md : Int) < t) = true := by simp; omega
                have d6 : decide ((t : Int) < b) = true := by simp; omega
                go_wp2_with fail
                refine (HIH.out cb2 md t b _ HOB.out (HG0.out.trans HGB.out) (HEB.out.all (HEA.out.all HD.out)) (by omega) (by omega) (by rw [HEB.out.len, HEA.out.len]; exact hb) (by rw [HEB.out.len, HEA.out.len]; exact HLL.out) (HSPL.out.s3.out HEB.out (.inr (Nat.le_refl _))) (HSPL.out.s4.out HEB.out (.inr (by omega))) (by omega)).mono ?_
                rintro e x3 ⟨cc, rfl, he, hs, ho, hg⟩
                have HEC := Lib.hid he
                have HSC := Lib.hid hs
                have HOC := Lib.hid ho
                have HGC := Lib.hid (HGB.out.trans hg)
                clear he hs ho hg
                go_wp2
                refine bodyPost_ret (results_none rfl _ _ _) rfl ⟨cc, rfl, (HEA.out.trans (HEB.out.wide (Nat.le_refl _) (by omega))).trans (HEC.out.wide (by omega) (Nat.le_refl _)), ?_, HOC.out, HGC.out⟩
                exact Srt.glue (HSB.out.out HEC.out (.inl (Nat.le_refl _))) HSC.out (cross_ed (lt := fun x y => cm x y < 0) (by rw [HEA.out.len]; exact hb) HSPL.out.cr HEB.out HEC.out)
              ·
                have d5 : decide ((md : Int) < t) = true := by simp; omega
                have d6 : decide ((t : Int) < b) = false := by simp; omega
                have hs0 : Srt (fun x y => cm x y < 0) cb2 md b := by
                  obtain rfl : t = b := by omega
                  exact HSPL.out.s3.out HEB.out (.inr (Nat.le_refl _))
                obtain ⟨cc, he, hs, ho, hg⟩ : ∃ cc, Ed cb2 md b cc ∧ Srt (fun x y => cm x y < 0) cc md b ∧ OwnN _ base (.slice (some ⟨g, 0, none⟩) n c) cc ∧ w.grownBy _ (some g) := ⟨cb2, .refl, hs0, HOB.out, HGB.out⟩
                clear hs0
                have HEC := Lib.hid he
                have HSC := Lib.hid hs
                have HOC := Lib.hid ho
                have HGC := Lib.hid hg
                clear he hs ho hg
                go_wp2
                refine bodyPost_ret (results_none rfl _ _ _) rfl ⟨cc, rfl, (HEA.out.trans (HEB.out.wide (Nat.le_refl _) (by omega))).trans (HEC.out.wide (by omega) (Nat.le_refl _)), ?_, HOC.out, HGC.out⟩
                exact Srt.glue (HSB.out.out HEC.out (.inl (Nat.le_refl _))) HSC.out (cross_ed (lt := fun x y => cm x y < 0) (by rw [HEA.out.len]; exact hb) HSPL.out.cr HEB.out HEC.out)
            ·
              have d5 : decide ((md : Int) < t) = false := by simp; omega
              have hs0 : Srt (fun x y => cm x y < 0) cb2 md b := by
                obtain rfl : md = t := by omega
                exact HSPL.out.s4.out HEB.out (.inr (Nat.le_refl _))
              obtain ⟨cc, he, hs, ho, hg⟩ : ∃ cc, Ed cb2 md b cc ∧ Srt (fun x y => cm x y < 0) cc md b ∧ OwnN _ base (.slice (some ⟨g, 0, none⟩) n c) cc ∧ w.grownBy _ (some g) := ⟨cb2, .refl, hs0, HOB.out, HGB.out⟩
              clear hs0
              have HEC := Lib.hid he
              have HSC := Lib.hid hs
              have HOC := Lib.hid ho
              have HGC := Lib.hid hg
              clear he hs ho hg
              go_wp2
              refine bodyPost_ret (results_none rfl _ _ _) rfl ⟨cc, rfl, (HEA.out.trans (HEB.out.wide (Nat.le_refl _) (by omega))).trans (HEC.out.wide (by omega) (Nat.le_refl _)), ?_, HOC.out, HGC.out⟩
              exact Srt.glue (HSB.out.out HEC.out (.inl (Nat.le_refl _))) HSC.out (cross_ed (lt := fun x y => cm x y < 0) (by rw [HEA.out.len]; exact hb) HSPL.out.cr HEB.out HEC.out)
  ·
    have t3 : decide ((md : Int) < m) = false := by simp; omega
    have c4 : ¬ md < m := by omega
    have C2 := Lib.hid c2
    have C3 := Lib.hid c3
    clear hmd hnn hp c2 c3 c1
    go_enter Tryz.func119, Tryz.ntmps119
    go_wp2
    go_loopw [20, 21] (fun iv jv wr => Bis lo r0 (fun i j => (lo < i → ¬ cm (gt l (nn - i)) (gt l (i - 1)) < 0) ∧ (j < r0 → cm (gt l (p - j)) (gt l j) < 0)) w iv jv wr) (fun iv jv _ => (intOf jv).toNat - (intOf iv).toNat)
    case atStart => exact ⟨lo, r0, Nat.le_refl _, hlo, Nat.le_refl _, by first | rfl | rw [C2.out], by rw [C3.out], ⟨fun k => absurd k (Nat.lt_irrefl _), fun k => absurd k (Nat.lt_irrefl _)⟩, Kept.refl w⟩
    case round =>
      clear w1 w2 t1 t2 w3 w5 t3
      obtain ⟨i, j, hi, hij, hj, rfl, rfl, hci, hkw⟩ := hrel
      have HCI := Lib.hid hci
      have HKW := Lib.hid hkw
      have HO := Lib.hid (H.out.kept hkw)
      clear hci hkw
      by_cases hlt : i < j
      ·
        obtain ⟨h, hh⟩ : ∃ h, (i + j) / 2 = h := ⟨_, rfl⟩
        have hm : ((i : Int) + j) / 2 = (h : Int) := by omega
        have hh1 : i ≤ h := by omega
        have hh2 : h < j := by omega
        clear hh
        obtain ⟨u, hu⟩ : ∃ u, p - h = u := ⟨_, rfl⟩
        have wu : IntKind.i64.wrap ((p : Int) - h) = (u : Int) := by rw [IntWalk.i64_in _ (by omega)]; omega
        have HU := Lib.hid hu
        have h1 : u < l.length := by omega
        have h2 : h < l.length := by omega
        clear hu
        have hA := atN HO.out h1
        have hB := atN HO.out h2
        obtain ⟨x, hx⟩ : ∃ x, gt l u = x := ⟨_, rfl⟩
        obtain ⟨y, hy⟩ : ∃ y, gt l h = y := ⟨_, rfl⟩
        rw [hx] at hA
        rw [hy] at hB
        have ca0 := hA
        have cb0 := hB
        clear hA hB
        have hgl := lt_of_cell ca0
        have dx := HD.out _ h1
        have dy := HD.out _ h2
        rw [hx] at dx
        rw [hy] at dy
        obtain ⟨z, hz⟩ : ∃ z, cm x y = z := ⟨_, rfl⟩
        have i1 : u < n := by have := HN.out; omega
        have i2 : h < n := by have := HN.out; omega
        have HC2 : Hid (∀ W, Kept wr W → Calls Tryz.prog cb (#[.int .i64 x, .int .i64 y] ++ caps) W (Gives (.int .i64 z) W)) := Lib.hid fun W hk => by rw [← hz]; exact HC.out x y W dx dy (grownBy_kept HG0.out (HKW.out.trans hk))
        have HX := Lib.hid hx
        have HY := Lib.hid hy
        have HZ := Lib.hid hz
        clear hx hy hz
        go_wp2
        refine region_class (fun Z => Kept wr Z) 12 (by kernel_rfl) (by kernel_rfl) (Kept.refl _).drew ?_
        simp only [List.take_succ_cons, List.take_zero, List.drop_succ_cons, List.drop_zero]
        refine wpQuiet_yield (.func (.func cb) #[] caps) (by rfl) (fun Z hZ => ?_) ?_
        ·
          go_simp
        simp only [Act.put, List.setIfInBounds_toArray, List.set_cons_zero, List.set_cons_succ]
        refine wpQuiet_yield (.slice (some ⟨g, 0, none⟩) n c) (by rfl) (fun Z hZ => ?_) ?_
        ·
          go_simp
        simp only [Act.put, List.setIfInBounds_toArray, List.set_cons_zero, List.set_cons_succ]
        refine wpQuiet_yield (.int .i64 p) (by rfl) (fun Z hZ => ?_) ?_
        ·
          go_simp
        simp only [Act.put, List.setIfInBounds_toArray, List.set_cons_zero, List.set_cons_succ]
        refine wpQuiet_yield (.int .i64 h) (by rfl) (fun Z hZ => ?_) ?_
        ·
          go_simp
        simp only [Act.put, List.setIfInBounds_toArray, List.set_cons_zero, List.set_cons_succ]
        refine wpQuiet_yield (.int .i64 u) (by rfl) (fun Z hZ => ?_) ?_
        ·
          go_simp
        simp only [Act.put, List.setIfInBounds_toArray, List.set_cons_zero, List.set_cons_succ]
        refine wpQuiet_yield (.pointer (some ⟨g, u, none⟩)) (by rfl) (fun Z hZ => ?_) ?_
        ·
          go_simp
        simp only [Act.put, List.setIfInBounds_toArray, List.set_cons_zero, List.set_cons_succ]
        refine wpQuiet_yield (.int .i64 x) (by rfl) (fun Z hZ => ?_) ?_
        ·
          have r0 := hZ.cell ca0
          have rb := lt_of_cell r0
          go_simp
        simp only [Act.put, List.setIfInBounds_toArray, List.set_cons_zero, List.set_cons_succ]
        refine wpQuiet_yield (.slice (some ⟨g, 0, none⟩) n c) (by rfl) (fun Z hZ => ?_) ?_
        ·
          go_simp
        simp only [Act.put, List.setIfInBounds_toArray, List.set_cons_zero, List.set_cons_succ]
        refine wpQuiet_yield (.int .i64 h) (by rfl) (fun Z hZ => ?_) ?_
        ·
          go_simp
        simp only [Act.put, List.setIfInBounds_toArray, List.set_cons_zero, List.set_cons_succ]
        refine wpQuiet_yield (.pointer (some ⟨g, h, none⟩)) (by rfl) (fun Z hZ => ?_) ?_
        ·
          go_simp
        simp only [Act.put, List.setIfInBounds_toArray, List.set_cons_zero, List.set_cons_succ]
        refine wpQuiet_yield (.int .i64 y) (by rfl) (fun Z hZ => ?_) ?_
        ·
          have r0 := hZ.cell cb0
          have rb := lt_of_cell r0
          go_simp
        simp only [Act.put, List.setIfInBounds_toArray, List.set_cons_zero, List.set_cons_succ]
        refine wpQuiet_yield (.int .i64 z) (by rfl) (fun Z hZ => ?_) ?_
        ·
          go_simp
          have hF := HC2.out Z hZ
          exact hF.mono fun e Z' h => ⟨h.1, hZ.trans h.2⟩
        simp only [Act.put, List.setIfInBounds_toArray, List.set_cons_zero, List.set_cons_succ]
        refine wpQuiet_nil ?_
        intro X1 hk
        have HKX1 := Lib.hid hk
        clear hk
        by_cases hz : z < 0
        ·
          have HZ0 := Lib.hid hz
          have hzd : decide (z < 0) = true := decide_eq_true hz
          clear hz
          go_wp2
          refine ⟨⟨i, h, by omega, by omega, by omega, rfl, rfl, ⟨fun h => by have := HCI.out.1 h; omega, fun _ => by rw [HU.out, HX.out, HY.out, HZ.out]; exact HZ0.out⟩, HKW.out.trans HKX1.out⟩, by simp [intOf]; omega⟩
        ·
          have HZ0 := Lib.hid hz
          have hzd : decide (z < 0) = false := decide_eq_false hz
          clear hz
          go_wp2
          refine ⟨⟨h + 1, j, by omega, by omega, by omega, by go_num, rfl, ⟨fun _ => by rw [show h + 1 - 1 = h by omega, show nn - (h + 1) = u by have := HU.out; have := HP.out; omega, HX.out, HY.out, HZ.out]; exact HZ0.out, fun h => by have := HCI.out.2 h; omega⟩, HKW.out.trans HKX1.out⟩, by simp [intOf]; omega⟩
      ·
        obtain rfl : i = j := by omega
        obtain ⟨t, ht⟩ : ∃ t, nn - i = t := ⟨_, rfl⟩
        have wt : IntKind.i64.wrap ((nn : Int) - i) = (t : Int) := by rw [IntWalk.i64_in _ (by have := HNN.out; omega)]; have := HNN.out; omega
        have HT := Lib.hid ht
        have b1 : a ≤ i := by omega
        have b7 : lo ≤ i := hi
        have b8 : i ≤ r0 := hj
        have b2 : i ≤ md := by omega
        have b3 : i ≤ m := by omega
        have b4 : m ≤ t := by have := HNN.out; omega
        have b5 : t ≤ b := by have := HCASE.out; have := HNN.out; omega
        have b6 : md ≤ t := by have := HNN.out; omega
        clear ht hi hij hj hlt
        have HSP : Hid (∀ c : List Int, (∀ q, gt c q = rotF (gt l) i m t q) → Split (fun x y => cm x y < 0) c a i md t b) := Lib.hid fun c hc => by
          have e : md + m - i = t := by rw [HNN.out]; exact HT.out
          have := split_of hL HD.out (s := i) (lo := lo) (r0 := r0) ham hmb hb HMD.out.symm HCASE.out (by omega) (by omega) K1.out K2.out (fun h => by have := HCI.out.1 h; rw [← HNN.out] at this; omega) (fun h => by have := HCI.out.2 h; rw [← HP.out, ← HNN.out] at this; exact this) (fun q => by rw [e]; exact hc q)
          rw [e] at this
          exact this
        by_cases ga1 : i < m
        · by_cases ga2 : m < t
          ·
            have d1 : decide ((i : Int) < m) = true := by simp; omega
            have d2 : decide ((m : Int) < t) = true := by simp; omega
            go_wp2_with fail
            refine (rotateN_any l g c base n i m t _ _ HO.out ga1 ga2 (by omega) HLL.out).mono ?_
            rintro e x1 ⟨ca, rfl, he, hs, ho, hg⟩
            have HEA : Hid (Ed l a b ca) := Lib.hid (he.wide b1 b5)
            have HSPL := Lib.hid (HSP.out ca hs)
            have HOA := Lib.hid ho
            have HGA := Lib.hid ((grownBy_kept (grownBy_same w (some g)) HKW.out).trans hg)
            clear he hs ho hg HKW HO
            by_cases gb1 : a < i
            · by_cases gb2 : i < md
              ·
                have d3 : decide ((a : Int) < i) = true := by simp; omega
                have d4 : decide ((i : Int) < md) = true := by simp; omega
                go_wp2_with fail
                refine (HIH.out ca a i md _ HOA.out (HG0.out.trans HGA.out) (HEA.out.all HD.out) (by omega) (by omega) (by rw [HEA.out.len]; omega) (by rw [HEA.out.len]; exact HLL.out) HSPL.out.s1 HSPL.out.s2 (by omega)).mono ?_
                rintro e x2 ⟨cb2, rfl, he, hs, ho, hg⟩
                have HEB := Lib.hid he
                have HSB := Lib.hid hs
                have HOB := Lib.hid ho
                have HGB := Lib.hid (HGA.out.trans hg)
                clear he hs ho hg
                by_cases gc1 : md < t
                · by_cases gc2 : t < b
                  ·
                    have d5 : decide ((md : Int) < t) = true := by simp; omega
                    have d6 : decide ((t : Int) < b) = true := by simp; omega
                    go_wp2_with fail
                    refine (HIH.out cb2 md t b _ HOB.out (HG0.out.trans HGB.out) (HEB.out.all (HEA.out.all HD.out)) (by omega) (by omega) (by rw [HEB.out.len, HEA.out.len]; exact hb) (by rw [HEB.out.len, HEA.out.len]; exact HLL.out) (HSPL.out.s3.out HEB.out (.inr (Nat.le_refl _))) (HSPL.out.s4.out HEB.out (.inr (by omega))) (by omega)).mono ?_
                    rintro e x3 ⟨cc, rfl, he, hs, ho, hg⟩
                    have HEC := Lib.hid he
                    have HSC := Lib.hid hs
                    have HOC := Lib.hid ho
                    have HGC := Lib.hid (HGB.out.trans hg)
                    clear he hs ho hg
                    go_wp2
                    refine bodyPost_ret (results_none rfl _ _ _) rfl ⟨cc, rfl, (HEA.out.trans (HEB.out.wide (Nat.le_refl _) (by omega))).trans (HEC.out.wide (by omega) (Nat.le_refl _)), ?_, HOC.out, HGC.out⟩
                    exact Srt.glue (HSB.out.out HEC.out (.inl (Nat.le_refl _))) HSC.out (cross_ed (lt := fun x y => cm x y < 0) (by rw [HEA.out.len]; exact hb) HSPL.out.cr HEB.out HEC.out)
                  ·
                    have d5 : decide ((md : Int) < t) = true := by simp; omega
                    have d6 : decide ((t : Int) < b) = false := by simp; omega
                    have hs0 : Srt (fun x y => cm x y < 0) cb2 md b := by
                      obtain rfl : t = b := by omega
                      exact HSPL.out.s3.out HEB.out (.inr (Nat.le_refl _))
                    obtain ⟨cc, he, hs, ho, hg⟩ : ∃ cc, Ed cb2 md b cc ∧ Srt (fun x y => cm x y < 0) cc md b ∧ OwnN _ base (.slice (some ⟨g, 0, none⟩) n c) cc ∧ w.grownBy _ (some g) := ⟨cb2, .refl, hs0, HOB.out, HGB.out⟩
                    clear hs0
                    have HEC := Lib.hid he
                    have HSC := Lib.hid hs
                    have HOC := Lib.hid ho
                    have HGC := Lib.hid hg
                    clear he hs ho hg
                    go_wp2
                    refine bodyPost_ret (results_none rfl _ _ _) rfl ⟨cc, rfl, (HEA.out.trans (HEB.out.wide (Nat.le_refl _) (by omega))).trans (HEC.out.wide (by omega) (Nat.le_refl _)), ?_, HOC.out, HGC.out⟩
                    exact Srt.glue (HSB.out.out HEC.out (.inl (Nat.le_refl _))) HSC.out (cross_ed (lt := fun x y => cm x y < 0) (by rw [HEA.out.len]; exact hb) HSPL.out.cr HEB.out HEC.out)
                ·
                  have d5 : decide ((md : Int) < t) = false := by simp; omega
                  have hs0 : Srt (fun x y => cm x y < 0) cb2 md b := by
                    obtain rfl : md = t := by omega
                    exact HSPL.out.s4.out HEB.out (.inr (Nat.le_refl _))
                  obtain ⟨cc, he, hs, ho, hg⟩ : ∃ cc, Ed cb2 md b cc ∧ Srt (fun x y => cm x y < 0) cc md b ∧ OwnN _ base (.slice (some ⟨g, 0, none⟩) n c) cc ∧ w.grownBy _ (some g) := ⟨cb2, .refl, hs0, HOB.out, HGB.out⟩
                  clear hs0
                  have HEC := Lib.hid he
                  have HSC := Lib.hid hs
                  have HOC := Lib.hid ho
                  have HGC := Lib.hid hg
                  clear he hs ho hg
                  go_wp2
                  refine bodyPost_ret (results_none rfl _ _ _) rfl ⟨cc, rfl, (HEA.out.trans (HEB.out.wide (Nat.le_refl _) (by omega))).trans (HEC.out.wide (by omega) (Nat.le_refl _)), ?_, HOC.out, HGC.out⟩
                  exact Srt.glue (HSB.out.out HEC.out (.inl (Nat.le_refl _))) HSC.out (cross_ed (lt := fun x y => cm x y < 0) (by rw [HEA.out.len]; exact hb) HSPL.out.cr HEB.out HEC.out)
              ·
                have d3 : decide ((a : Int) < i) = true := by simp; omega
                have d4 : decide ((i : Int) < md) = false := by simp; omega
                have hs0 : Srt (fun x y => cm x y < 0) ca a md := by
                  obtain rfl : i = md := by omega
                  exact HSPL.out.s1
                obtain ⟨cb2, he, hs, ho, hg⟩ : ∃ cb2, Ed ca a md cb2 ∧ Srt (fun x y => cm x y < 0) cb2 a md ∧ OwnN _ base (.slice (some ⟨g, 0, none⟩) n c) cb2 ∧ w.grownBy _ (some g) := ⟨ca, .refl, hs0, HOA.out, HGA.out⟩
                clear hs0
                have HEB := Lib.hid he
                have HSB := Lib.hid hs
                have HOB := Lib.hid ho
                have HGB := Lib.hid hg
                clear he hs ho hg
                by_cases gc1 : md < t
                · by_cases gc2 : t < b
                  ·
                    have d5 : decide ((md : Int) < t) = true := by simp; omega
                    have d6 : decide ((t : Int) < b) = true := by simp; omega
                    go_wp2_with fail
                    refine (HIH.out cb2 md t b _ HOB.out (HG0.out.trans HGB.out) (HEB.out.all (HEA.out.all HD.out)) (by omega) (by omega) (by rw [HEB.out.len, HEA.out.len]; exact hb) (by rw [HEB.out.len, HEA.out.len]; exact HLL.out) (HSPL.out.s3.out HEB.out (.inr (Nat.le_refl _))) (HSPL.out.s4.out HEB.out (.inr (by omega))) (by omega)).mono ?_
                    rintro e x3 ⟨cc, rfl, he, hs, ho, hg⟩
                    have HEC := Lib.hid he
                    have HSC := Lib.hid hs
                    have HOC := Lib.hid ho
                    have HGC := Lib.hid (HGB.out.trans hg)
                    clear he hs ho hg
                    go_wp2
                    refine bodyPost_ret (results_none rfl _ _ _) rfl ⟨cc, rfl, (HEA.out.trans (HEB.out.wide (Nat.le_refl _) (by omega))).trans (HEC.out.wide (by omega) (Nat.le_refl _)), ?_, HOC.out, HGC.out⟩
                    exact Srt.glue (HSB.out.out HEC.out (.inl (Nat.le_refl _))) HSC.out (cross_ed (lt := fun x y => cm x y < 0) (by rw [HEA.out.len]; exact hb) HSPL.out.cr HEB.out HEC.out)
                  ·
                    have d5 : decide ((md : Int) < t) = true := by simp; omega
                    have d6 : decide ((t : Int) < b) = false := by simp; omega
                    have hs0 : Srt (fun x y => cm x y < 0) cb2 md b := by
                      obtain rfl : t = b := by omega
                      exact HSPL.out.s3.out HEB.out (.inr (Nat.le_refl _))
                    obtain ⟨cc, he, hs, ho, hg⟩ : ∃ cc, Ed cb2 md b cc ∧ Srt (fun x y => cm x y < 0) cc md b ∧ OwnN _ base (.slice (some ⟨g, 0, none⟩) n c) cc ∧ w.grownBy _ (some g) := ⟨cb2, .refl, hs0, HOB.out, HGB.out⟩
                    clear hs0
                    have HEC := Lib.hid he
                    have HSC := Lib.hid hs
                    have HOC := Lib.hid ho
                    have HGC := Lib.hid hg
                    clear he hs ho hg
                    go_wp2
                    refine bodyPost_ret (results_none rfl _ _ _) rfl ⟨cc, rfl, (HEA.out.trans (HEB.out.wide (Nat.le_refl _) (by omega))).trans (HEC.out.wide (by omega) (Nat.le_refl _)), ?_, HOC.out, HGC.out⟩
                    exact Srt.glue (HSB.out.out HEC.out (.inl (Nat.le_refl _))) HSC.out (cross_ed (lt := fun x y => cm x y < 0) (by rw [HEA.out.len]; exact hb) HSPL.out.cr HEB.out HEC.out)
                ·
                  have d5 : decide ((md : Int) < t) = false := by simp; omega
                  have hs0 : Srt (fun x y => cm x y < 0) cb2 md b := by
                    obtain rfl : md = t := by omega
                    exact HSPL.out.s4.out HEB.out (.inr (Nat.le_refl _))
                  obtain ⟨cc, he, hs, ho, hg⟩ : ∃ cc, Ed cb2 md b cc ∧ Srt (fun x y => cm x y < 0) cc md b ∧ OwnN _ base (.slice (some ⟨g, 0, none⟩) n c) cc ∧ w.grownBy _ (some g) := ⟨cb2, .refl, hs0, HOB.out, HGB.out⟩
                  clear hs0
                  have HEC := Lib.hid he
                  have HSC := Lib.hid hs
                  have HOC := Lib.hid ho
                  have HGC := Lib.hid hg
                  clear he hs ho hg
                  go_wp2
                  refine bodyPost_ret (results_none rfl _ _ _) rfl ⟨cc, rfl, (HEA.out.trans (HEB.out.wide (Nat.le_refl _) (by omega))).trans (HEC.out.wide (by omega) (Nat.le_refl _)), ?_, HOC.out, HGC.out⟩
                  exact Srt.glue (HSB.out.out HEC.out (.inl (Nat.le_refl _))) HSC.out (cross_ed (lt := fun x y => cm x y < 0) (by rw [HEA.out.len]; exact hb) HSPL.out.cr HEB.out HEC.out)
            ·
              have d3 : decide ((a : Int) < i) = false := by simp; omega
              have hs0 : Srt (fun x y => cm x y < 0) ca a md := by
                obtain rfl : a = i := by omega
                exact HSPL.out.s2
              obtain ⟨cb2, he, hs, ho, hg⟩ : ∃ cb2, Ed ca a md cb2 ∧ Srt (fun x y => cm x y < 0) cb2 a md ∧ OwnN _ base (.slice (some ⟨g, 0, none⟩) n c) cb2 ∧ w.grownBy _ (some g) := ⟨ca, .refl, hs0, HOA.out, HGA.out⟩
              clear hs0
              have HEB := Lib.hid he
              have HSB := Lib.hid hs
              have HOB := Lib.hid ho
              have HGB := Lib.hid hg
              clear he hs ho hg
              by_cases gc1 : md < t
              · by_cases gc2 : t < b
                ·
                  have d5 : decide ((md : Int) < t) = true := by simp; omega
                  have d6 : decide ((t : Int) < b) = true := by simp; omega
                  go_wp2_with fail
                  refine (HIH.out cb2 md t b _ HOB.out (HG0.out.trans HGB.out) (HEB.out.all (HEA.out.all HD.out)) (by omega) (by omega) (by rw [HEB.out.len, HEA.out.len]; exact hb) (by rw [HEB.out.len, HEA.out.len]; exact HLL.out) (HSPL.out.s3.out HEB.out (.inr (Nat.le_refl _))) (HSPL.out.s4.out HEB.out (.inr (by omega))) (by omega)).mono ?_
                  rintro e x3 ⟨cc, rfl, he, hs, ho, hg⟩
                  have HEC := Lib.hid he
                  have HSC := Lib.hid hs
                  have HOC := Lib.hid ho
                  have HGC := Lib.hid (HGB.out.trans hg)
                  clear he hs ho hg
                  go_wp2
                  refine bodyPost_ret (results_none rfl _ _ _) rfl ⟨cc, rfl, (HEA.out.trans (HEB.out.wide (Nat.le_refl _) (by omega))).trans (HEC.out.wide (by omega) (Nat.le_refl _)), ?_, HOC.out, HGC.out⟩
                  exact Srt.glue (HSB.out.out HEC.out (.inl (Nat.le_refl _))) HSC.out (cross_ed (lt := fun x y => cm x y < 0) (by rw [HEA.out.len]; exact hb) HSPL.out.cr HEB.out HEC.out)
                ·
                  have d5 : decide ((md : Int) < t) = true := by simp; omega
                  have d6 : decide ((t : Int) < b) = false := by simp; omega
                  have hs0 : Srt (fun x y => cm x y < 0) cb2 md b := by
                    obtain rfl : t = b := by omega
                    exact HSPL.out.s3.out HEB.out (.inr (Nat.le_refl _))
                  obtain ⟨cc, he, hs, ho, hg⟩ : ∃ cc, Ed cb2 md b cc ∧ Srt (fun x y => cm x y < 0) cc md b ∧ OwnN _ base (.slice (some ⟨g, 0, none⟩) n c) cc ∧ w.grownBy _ (some g) := ⟨cb2, .refl, hs0, HOB.out, HGB.out⟩
                  clear hs0
                  have HEC := Lib.hid he
                  have HSC := Lib.hid hs
                  have HOC := Lib.hid ho
                  have HGC := Lib.hid hg
                  clear he hs ho hg
                  go_wp2
                  refine bodyPost_ret (results_none rfl _ _ _) rfl ⟨cc, rfl, (HEA.out.trans (HEB.out.wide (Nat.le_refl _) (by omega))).trans (HEC.out.wide (by omega) (Nat.le_refl _)), ?_, HOC.out, HGC.out⟩
                  exact Srt.glue (HSB.out.out HEC.out (.inl (Nat.le_refl _))) HSC.out (cross_ed (lt := fun x y => cm x y < 0) (by rw [HEA.out.len]; exact hb) HSPL.out.cr HEB.out HEC.out)
              ·
                have d5 : decide ((md : Int) < t) = false := by simp; omega
                have hs0 : Srt (fun x y => cm x y < 0) cb2 md b := by
                  obtain rfl : md = t := by omega
                  exact HSPL.out.s4.out HEB.out (.inr (Nat.le_refl _))
                obtain ⟨cc, he, hs, ho, hg⟩ : ∃ cc, Ed cb2 md b cc ∧ Srt (fun x y => cm x y < 0) cc md b ∧ OwnN _ base (.slice (some ⟨g, 0, none⟩) n c) cc ∧ w.grownBy _ (some g) := ⟨cb2, .refl, hs0, HOB.out, HGB.out⟩
                clear hs0
                have HEC := Lib.hid he
                have HSC := Lib.hid hs
                have HOC := Lib.hid ho
                have HGC := Lib.hid hg
                clear he hs ho hg
                go_wp2
                refine bodyPost_ret (results_none rfl _ _ _) rfl ⟨cc, rfl, (HEA.out.trans (HEB.out.wide (Nat.le_refl _) (by omega))).trans (HEC.out.wide (by omega) (Nat.le_refl _)), ?_, HOC.out, HGC.out⟩
                exact Srt.glue (HSB.out.out HEC.out (.inl (Nat.le_refl _))) HSC.out (cross_ed (lt := fun x y => cm x y < 0) (by rw [HEA.out.len]; exact hb) HSPL.out.cr HEB.out HEC.out)
          ·
            have d1 : decide ((i : Int) < m) = true := by simp; omega
            have d2 : decide ((m : Int) < t) = false := by simp; omega
            obtain ⟨ca, he, hs, ho, hg⟩ : ∃ ca, Ed l a b ca ∧ Split (fun x y => cm x y < 0) ca a i md t b ∧ OwnN wr base (.slice (some ⟨g, 0, none⟩) n c) ca ∧ w.grownBy wr (some g) := ⟨l, .refl, HSP.out l (rot_none b3 b4 (by omega)), HO.out, grownBy_kept (grownBy_same w (some g)) HKW.out⟩
            have HEA := Lib.hid he
            have HSPL := Lib.hid hs
            have HOA := Lib.hid ho
            have HGA := Lib.hid hg
            clear he hs ho hg HKW HO
            by_cases gb1 : a < i
            · by_cases gb2 : i < md
              ·
                have d3 : decide ((a : Int) < i) = true := by simp; omega
                have d4 : decide ((i : Int) < md) = true := by simp; omega
                go_wp2_with fail
                refine (HIH.out ca a i md _ HOA.out (HG0.out.trans HGA.out) (HEA.out.all HD.out) (by omega) (by omega) (by rw [HEA.out.len]; omega) (by rw [HEA.out.len]; exact HLL.out) HSPL.out.s1 HSPL.out.s2 (by omega)).mono ?_
                rintro e x2 ⟨cb2, rfl, he, hs, ho, hg⟩
                have HEB := Lib.hid he
                have HSB := Lib.hid hs
                have HOB := Lib.hid ho
                have HGB := Lib.hid (HGA.out.trans hg)
                clear he hs ho hg
                by_cases gc1 : md < t
                · by_cases gc2 : t < b
                  ·
                    have d5 : decide ((md : Int) < t) = true := by simp; omega
                    have d6 : decide ((t : Int) < b) = true := by simp; omega
                    go_wp2_with fail
                    refine (HIH.out cb2 md t b _ HOB.out (HG0.out.trans HGB.out) (HEB.out.all (HEA.out.all HD.out)) (by omega) (by omega) (by rw [HEB.out.len, HEA.out.len]; exact hb) (by rw [HEB.out.len, HEA.out.len]; exact HLL.out) (HSPL.out.s3.out HEB.out (.inr (Nat.le_refl _))) (HSPL.out.s4.out HEB.out (.inr (by omega))) (by omega)).mono ?_
                    rintro e x3 ⟨cc, rfl, he, hs, ho, hg⟩
                    have HEC := Lib.hid he
                    have HSC := Lib.hid hs
                    have HOC := Lib.hid ho
                    have HGC := Lib.hid (HGB.out.trans hg)
                    clear he hs ho hg
                    go_wp2
                    refine bodyPost_ret (results_none rfl _ _ _) rfl ⟨cc, rfl, (HEA.out.trans (HEB.out.wide (Nat.le_refl _) (by omega))).trans (HEC.out.wide (by omega) (Nat.le_refl _)), ?_, HOC.out, HGC.out⟩
                    exact Srt.glue (HSB.out.out HEC.out (.inl (Nat.le_refl _))) HSC.out (cross_ed (lt := fun x y => cm x y < 0) (by rw [HEA.out.len]; exact hb) HSPL.out.cr HEB.out HEC.out)
                  ·
                    have d5 : decide ((md : Int) < t) = true := by simp; omega
                    have d6 : decide ((t : Int) < b) = false := by simp; omega
                    have hs0 : Srt (fun x y => cm x y < 0) cb2 md b := by
                      obtain rfl : t = b := by omega
                      exact HSPL.out.s3.out HEB.out (.inr (Nat.le_refl _))
                    obtain ⟨cc, he, hs, ho, hg⟩ : ∃ cc, Ed cb2 md b cc ∧ Srt (fun x y => cm x y < 0) cc md b ∧ OwnN _ base (.slice (some ⟨g, 0, none⟩) n c) cc ∧ w.grownBy _ (some g) := ⟨cb2, .refl, hs0, HOB.out, HGB.out⟩
                    clear hs0
                    have HEC := Lib.hid he
                    have HSC := Lib.hid hs
                    have HOC := Lib.hid ho
                    have HGC := Lib.hid hg
                    clear he hs ho hg
                    go_wp2
                    refine bodyPost_ret (results_none rfl _ _ _) rfl ⟨cc, rfl, (HEA.out.trans (HEB.out.wide (Nat.le_refl _) (by omega))).trans (HEC.out.wide (by omega) (Nat.le_refl _)), ?_, HOC.out, HGC.out⟩
                    exact Srt.glue (HSB.out.out HEC.out (.inl (Nat.le_refl _))) HSC.out (cross_ed (lt := fun x y => cm x y < 0) (by rw [HEA.out.len]; exact hb) HSPL.out.cr HEB.out HEC.out)
                ·
                  have d5 : decide ((md : Int) < t) = false := by simp; omega
                  have hs0 : Srt (fun x y => cm x y < 0) cb2 md b := by
                    obtain rfl : md = t := by omega
                    exact HSPL.out.s4.out HEB.out (.inr (Nat.le_refl _))
                  obtain ⟨cc, he, hs, ho, hg⟩ : ∃ cc, Ed cb2 md b cc ∧ Srt (fun x y => cm x y < 0) cc md b ∧ OwnN _ base (.slice (some ⟨g, 0, none⟩) n c) cc ∧ w.grownBy _ (some g) := ⟨cb2, .refl, hs0, HOB.out, HGB.out⟩
                  clear hs0
                  have HEC := Lib.hid he
                  have HSC := Lib.hid hs
                  have HOC := Lib.hid ho
                  have HGC := Lib.hid hg
                  clear he hs ho hg
                  go_wp2
                  refine bodyPost_ret (results_none rfl _ _ _) rfl ⟨cc, rfl, (HEA.out.trans (HEB.out.wide (Nat.le_refl _) (by omega))).trans (HEC.out.wide (by omega) (Nat.le_refl _)), ?_, HOC.out, HGC.out⟩
                  exact Srt.glue (HSB.out.out HEC.out (.inl (Nat.le_refl _))) HSC.out (cross_ed (lt := fun x y => cm x y < 0) (by rw [HEA.out.len]; exact hb) HSPL.out.cr HEB.out HEC.out)
              ·
                have d3 : decide ((a : Int) < i) = true := by simp; omega
                have d4 : decide ((i : Int) < md) = false := by simp; omega
                have hs0 : Srt (fun x y => cm x y < 0) ca a md := by
                  obtain rfl : i = md := by omega
                  exact HSPL.out.s1
                obtain ⟨cb2, he, hs, ho, hg⟩ : ∃ cb2, Ed ca a md cb2 ∧ Srt (fun x y => cm x y < 0) cb2 a md ∧ OwnN _ base (.slice (some ⟨g, 0, none⟩) n c) cb2 ∧ w.grownBy _ (some g) := ⟨ca, .refl, hs0, HOA.out, HGA.out⟩
                clear hs0
                have HEB := Lib.hid he
                have HSB := Lib.hid hs
                have HOB := Lib.hid ho
                have HGB := Lib.hid hg
                clear he hs ho hg
                by_cases gc1 : md < t
                · by_cases gc2 : t < b
                  ·
                    have d5 : decide ((md : Int) < t) = true := by simp; omega
                    have d6 : decide ((t : Int) < b) = true := by simp; omega
                    go_wp2_with fail
                    refine (HIH.out cb2 md t b _ HOB.out (HG0.out.trans HGB.out) (HEB.out.all (HEA.out.all HD.out)) (by omega) (by omega) (by rw [HEB.out.len, HEA.out.len]; exact hb) (by rw [HEB.out.len, HEA.out.len]; exact HLL.out) (HSPL.out.s3.out HEB.out (.inr (Nat.le_refl _))) (HSPL.out.s4.out HEB.out (.inr (by omega))) (by omega)).mono ?_
                    rintro e x3 ⟨cc, rfl, he, hs, ho, hg⟩
                    have HEC := Lib.hid he
                    have HSC := Lib.hid hs
                    have HOC := Lib.hid ho
                    have HGC := Lib.hid (HGB.out.trans hg)
                    clear he hs ho hg
                    go_wp2
                    refine bodyPost_ret (results_none rfl _ _ _) rfl ⟨cc, rfl, (HEA.out.trans (HEB.out.wide (Nat.le_refl _) (by omega))).trans (HEC.out.wide (by omega) (Nat.le_refl _)), ?_, HOC.out, HGC.out⟩
                    exact Srt.glue (HSB.out.out HEC.out (.inl (Nat.le_refl _))) HSC.out (cross_ed (lt := fun x y => cm x y < 0) (by rw [HEA.out.len]; exact hb) HSPL.out.cr HEB.out HEC.out)
                  ·
                    have d5 : decide ((md : Int) < t) = true := by simp; omega
                    have d6 : decide ((t : Int) < b) = false := by simp; omega
                    have hs0 : Srt (fun x y => cm x y < 0) cb2 md b := by
                      obtain rfl : t = b := by omega
                      exact HSPL.out.s3.out HEB.out (.inr (Nat.le_refl _))
                    obtain ⟨cc, he, hs, ho, hg⟩ : ∃ cc, Ed cb2 md b cc ∧ Srt (fun x y => cm x y < 0) cc md b ∧ OwnN _ base (.slice (some ⟨g, 0, none⟩) n c) cc ∧ w.grownBy _ (some g) := ⟨cb2, .refl, hs0, HOB.out, HGB.out⟩
                    clear hs0
                    have HEC := Lib.hid he
                    have HSC := Lib.hid hs
                    have HOC := Lib.hid ho
                    have HGC := Lib.hid hg
                    clear he hs ho hg
                    go_wp2
                    refine bodyPost_ret (results_none rfl _ _ _) rfl ⟨cc, rfl, (HEA.out.trans (HEB.out.wide (Nat.le_refl _) (by omega))).trans (HEC.out.wide (by omega) (Nat.le_refl _)), ?_, HOC.out, HGC.out⟩
                    exact Srt.glue (HSB.out.out HEC.out (.inl (Nat.le_refl _))) HSC.out (cross_ed (lt := fun x y => cm x y < 0) (by rw [HEA.out.len]; exact hb) HSPL.out.cr HEB.out HEC.out)
                ·
                  have d5 : decide ((md : Int) < t) = false := by simp; omega
                  have hs0 : Srt (fun x y => cm x y < 0) cb2 md b := by
                    obtain rfl : md = t := by omega
                    exact HSPL.out.s4.out HEB.out (.inr (Nat.le_refl _))
                  obtain ⟨cc, he, hs, ho, hg⟩ : ∃ cc, Ed cb2 md b cc ∧ Srt (fun x y => cm x y < 0) cc md b ∧ OwnN _ base (.slice (some ⟨g, 0, none⟩) n c) cc ∧ w.grownBy _ (some g) := ⟨cb2, .refl, hs0, HOB.out, HGB.out⟩
                  clear hs0
                  have HEC := Lib.hid he
                  have HSC := Lib.hid hs
                  have HOC := Lib.hid ho
                  have HGC := Lib.hid hg
                  clear he hs ho hg
                  go_wp2
                  refine bodyPost_ret (results_none rfl _ _ _) rfl ⟨cc, rfl, (HEA.out.trans (HEB.out.wide (Nat.le_refl _) (by omega))).trans (HEC.out.wide (by omega) (Nat.le_refl _)), ?_, HOC.out, HGC.out⟩
                  exact Srt.glue (HSB.out.out HEC.out (.inl (Nat.le_refl _))) HSC.out (cross_ed (lt := fun x y => cm x y < 0) (by rw [HEA.out.len]; exact hb) HSPL.out.cr HEB.out HEC.out)
            ·
              have d3 : decide ((a : Int) < i) = false := by simp; omega
              have hs0 : Srt (fun x y => cm x y < 0) ca a md := by
                obtain rfl : a = i := by omega
                exact HSPL.out.s2
              obtain ⟨cb2, he, hs, ho, hg⟩ : ∃ cb2, Ed ca a md cb2 ∧ Srt (fun x y => cm x y < 0) cb2 a md ∧ OwnN _ base (.slice (some ⟨g, 0, none⟩) n c) cb2 ∧ w.grownBy _ (some g) := ⟨ca, .refl, hs0, HOA.out, HGA.out⟩
              clear hs0
              have HEB := Lib.hid he
              have HSB := Lib.hid hs
              have HOB := Lib.hid ho
              have HGB := Lib.hid hg
              clear he hs ho hg
              by_cases gc1 : md < t
              · by_cases gc2 : t < b
                ·
                  have d5 : decide ((md : Int) < t) = true := by simp; omega
                  have d6 : decide ((t : Int) < b) = true := by simp; omega
                  go_wp2_with fail
                  refine (HIH.out cb2 md t b _ HOB.out (HG0.out.trans HGB.out) (HEB.out.all (HEA.out.all HD.out)) (by omega) (by omega) (by rw [HEB.out.len, HEA.out.len]; exact hb) (by rw [HEB.out.len, HEA.out.len]; exact HLL.out) (HSPL.out.s3.out HEB.out (.inr (Nat.le_refl _))) (HSPL.out.s4.out HEB.out (.inr (by omega))) (by omega)).mono ?_
                  rintro e x3 ⟨cc, rfl, he, hs, ho, hg⟩
                  have HEC := Lib.hid he
                  have HSC := Lib.hid hs
                  have HOC := Lib.hid ho
                  have HGC := Lib.hid (HGB.out.trans hg)
                  clear he hs ho hg
                  go_wp2
                  refine bodyPost_ret (results_none rfl _ _ _) rfl ⟨cc, rfl, (HEA.out.trans (HEB.out.wide (Nat.le_refl _) (by omega))).trans (HEC.out.wide (by omega) (Nat.le_refl _)), ?_, HOC.out, HGC.out⟩
                  exact Srt.glue (HSB.out.out HEC.out (.inl (Nat.le_refl _))) HSC.out (cross_ed (lt := fun x y => cm x y < 0) (by rw [HEA.out.len]; exact hb) HSPL.out.cr HEB.out HEC.out)
                ·
                  have d5 : decide ((md : Int) < t) = true := by simp; omega
                  have d6 : decide ((t : Int) < b) = false := by simp; omega
                  have hs0 : Srt (fun x y => cm x y < 0) cb2 md b := by
                    obtain rfl : t = b := by omega
                    exact HSPL.out.s3.out HEB.out (.inr (Nat.le_refl _))
                  obtain ⟨cc, he, hs, ho, hg⟩ : ∃ cc, Ed cb2 md b cc ∧ Srt (fun x y => cm x y < 0) cc md b ∧ OwnN _ base (.slice (some ⟨g, 0, none⟩) n c) cc ∧ w.grownBy _ (some g) := ⟨cb2, .refl, hs0, HOB.out, HGB.out⟩
                  clear hs0
                  have HEC := Lib.hid he
                  have HSC := Lib.hid hs
                  have HOC := Lib.hid ho
                  have HGC := Lib.hid hg
                  clear he hs ho hg
                  go_wp2
                  refine bodyPost_ret (results_none rfl _ _ _) rfl ⟨cc, rfl, (HEA.out.trans (HEB.out.wide (Nat.le_refl _) (by omega))).trans (HEC.out.wide (by omega) (Nat.le_refl _)), ?_, HOC.out, HGC.out⟩
                  exact Srt.glue (HSB.out.out HEC.out (.inl (Nat.le_refl _))) HSC.out (cross_ed (lt := fun x y => cm x y < 0) (by rw [HEA.out.len]; exact hb) HSPL.out.cr HEB.out HEC.out)
              ·
                have d5 : decide ((md : Int) < t) = false := by simp; omega
                have hs0 : Srt (fun x y => cm x y < 0) cb2 md b := by
                  obtain rfl : md = t := by omega
                  exact HSPL.out.s4.out HEB.out (.inr (Nat.le_refl _))
                obtain ⟨cc, he, hs, ho, hg⟩ : ∃ cc, Ed cb2 md b cc ∧ Srt (fun x y => cm x y < 0) cc md b ∧ OwnN _ base (.slice (some ⟨g, 0, none⟩) n c) cc ∧ w.grownBy _ (some g) := ⟨cb2, .refl, hs0, HOB.out, HGB.out⟩
                clear hs0
                have HEC := Lib.hid he
                have HSC := Lib.hid hs
                have HOC := Lib.hid ho
                have HGC := Lib.hid hg
                clear he hs ho hg
                go_wp2
                refine bodyPost_ret (results_none rfl _ _ _) rfl ⟨cc, rfl, (HEA.out.trans (HEB.out.wide (Nat.le_refl _) (by omega))).trans (HEC.out.wide (by omega) (Nat.le_refl _)), ?_, HOC.out, HGC.out⟩
                exact Srt.glue (HSB.out.out HEC.out (.inl (Nat.le_refl _))) HSC.out (cross_ed (lt := fun x y => cm x y < 0) (by rw [HEA.out.len]; exact hb) HSPL.out.cr HEB.out HEC.out)
        ·
          have d1 : decide ((i : Int) < m) = false := by simp; omega
          obtain ⟨ca, he, hs, ho, hg⟩ : ∃ ca, Ed l a b ca ∧ Split (fun x y => cm x y < 0) ca a i md t b ∧ OwnN wr base (.slice (some ⟨g, 0, none⟩) n c) ca ∧ w.grownBy wr (some g) := ⟨l, .refl, HSP.out l (rot_none b3 b4 (by omega)), HO.out, grownBy_kept (grownBy_same w (some g)) HKW.out⟩
          have HEA := Lib.hid he
          have HSPL := Lib.hid hs
          have HOA := Lib.hid ho
          have HGA := Lib.hid hg
          clear he hs ho hg HKW HO
          by_cases gb1 : a < i
          · by_cases gb2 : i < md
            ·
              have d3 : decide ((a : Int) < i) = true := by simp; omega
              have d4 : decide ((i : Int) < md) = true := by simp; omega
              go_wp2_with fail
              refine (HIH.out ca a i md _ HOA.out (HG0.out.trans HGA.out) (HEA.out.all HD.out) (by omega) (by omega) (by rw [HEA.out.len]; omega) (by rw [HEA.out.len]; exact HLL.out) HSPL.out.s1 HSPL.out.s2 (by omega)).mono ?_
              rintro e x2 ⟨cb2, rfl, he, hs, ho, hg⟩
              have HEB := Lib.hid he
              have HSB := Lib.hid hs
              have HOB := Lib.hid ho
              have HGB := Lib.hid (HGA.out.trans hg)
              clear he hs ho hg
              by_cases gc1 : md < t
              · by_cases gc2 : t < b
                ·
                  have d5 : decide ((md : Int) < t) = true := by simp; omega
                  have d6 : decide ((t : Int) < b) = true := by simp; omega
                  go_wp2_with fail
                  refine (HIH.out cb2 md t b _ HOB.out (HG0.out.trans HGB.out) (HEB.out.all (HEA.out.all HD.out)) (by omega) (by omega) (by rw [HEB.out.len, HEA.out.len]; exact hb) (by rw [HEB.out.len, HEA.out.len]; exact HLL.out) (HSPL.out.s3.out HEB.out (.inr (Nat.le_refl _))) (HSPL.out.s4.out HEB.out (.inr (by omega))) (by omega)).mono ?_
                  rintro e x3 ⟨cc, rfl, he, hs, ho, hg⟩
                  have HEC := Lib.hid he
                  have HSC := Lib.hid hs
                  have HOC := Lib.hid ho
                  have HGC := Lib.hid (HGB.out.trans hg)
                  clear he hs ho hg
                  go_wp2
                  refine bodyPost_ret (results_none rfl _ _ _) rfl ⟨cc, rfl, (HEA.out.trans (HEB.out.wide (Nat.le_refl _) (by omega))).trans (HEC.out.wide (by omega) (Nat.le_refl _)), ?_, HOC.out, HGC.out⟩
                  exact Srt.glue (HSB.out.out HEC.out (.inl (Nat.le_refl _))) HSC.out (cross_ed (lt := fun x y => cm x y < 0) (by rw [HEA.out.len]; exact hb) HSPL.out.cr HEB.out HEC.out)
                ·
                  have d5 : decide ((md : Int) < t) = true := by simp; omega
                  have d6 : decide ((t : Int) < b) = false := by simp; omega
                  have hs0 : Srt (fun x y => cm x y < 0) cb2 md b := by
                    obtain rfl : t = b := by omega
                    exact HSPL.out.s3.out HEB.out (.inr (Nat.le_refl _))
                  obtain ⟨cc, he, hs, ho, hg⟩ : ∃ cc, Ed cb2 md b cc ∧ Srt (fun x y => cm x y < 0) cc md b ∧ OwnN _ base (.slice (some ⟨g, 0, none⟩) n c) cc ∧ w.grownBy _ (some g) := ⟨cb2, .refl, hs0, HOB.out, HGB.out⟩
                  clear hs0
                  have HEC := Lib.hid he
                  have HSC := Lib.hid hs
                  have HOC := Lib.hid ho
                  have HGC := Lib.hid hg
                  clear he hs ho hg
                  go_wp2
                  refine bodyPost_ret (results_none rfl _ _ _) rfl ⟨cc, rfl, (HEA.out.trans (HEB.out.wide (Nat.le_refl _) (by omega))).trans (HEC.out.wide (by omega) (Nat.le_refl _)), ?_, HOC.out, HGC.out⟩
                  exact Srt.glue (HSB.out.out HEC.out (.inl (Nat.le_refl _))) HSC.out (cross_ed (lt := fun x y => cm x y < 0) (by rw [HEA.out.len]; exact hb) HSPL.out.cr HEB.out HEC.out)
              ·
                have d5 : decide ((md : Int) < t) = false := by simp; omega
                have hs0 : Srt (fun x y => cm x y < 0) cb2 md b := by
                  obtain rfl : md = t := by omega
                  exact HSPL.out.s4.out HEB.out (.inr (Nat.le_refl _))
                obtain ⟨cc, he, hs, ho, hg⟩ : ∃ cc, Ed cb2 md b cc ∧ Srt (fun x y => cm x y < 0) cc md b ∧ OwnN _ base (.slice (some ⟨g, 0, none⟩) n c) cc ∧ w.grownBy _ (some g) := ⟨cb2, .refl, hs0, HOB.out, HGB.out⟩
                clear hs0
                have HEC := Lib.hid he
                have HSC := Lib.hid hs
                have HOC := Lib.hid ho
                have HGC := Lib.hid hg
                clear he hs ho hg
                go_wp2
                refine bodyPost_ret (results_none rfl _ _ _) rfl ⟨cc, rfl, (HEA.out.trans (HEB.out.wide (Nat.le_refl _) (by omega))).trans (HEC.out.wide (by omega) (Nat.le_refl _)), ?_, HOC.out, HGC.out⟩
                exact Srt.glue (HSB.out.out HEC.out (.inl (Nat.le_refl _))) HSC.out (cross_ed (lt := fun x y => cm x y < 0) (by rw [HEA.out.len]; exact hb) HSPL.out.cr HEB.out HEC.out)
            ·
              have d3 : decide ((a : Int) < i) = true := by simp; omega
              have d4 : decide ((i : Int) < md) = false := by simp; omega
              have hs0 : Srt (fun x y => cm x y < 0) ca a md := by
                obtain rfl : i = md := by omega
                exact HSPL.out.s1
              obtain ⟨cb2, he, hs, ho, hg⟩ : ∃ cb2, Ed ca a md cb2 ∧ Srt (fun x y => cm x y < 0) cb2 a md ∧ OwnN _ base (.slice (some ⟨g, 0, none⟩) n c) cb2 ∧ w.grownBy _ (some g) := ⟨ca, .refl, hs0, HOA.out, HGA.out⟩
              clear hs0
              have HEB := Lib.hid he
              have HSB := Lib.hid hs
              have HOB := Lib.hid ho
              have HGB := Lib.hid hg
              clear he hs ho hg
              by_cases gc1 : md < t
              · by_cases gc2 : t < b
                ·
                  have d5 : decide ((md : Int) < t) = true := by simp; omega
                  have d6 : decide ((t : Int) < b) = true := by simp; omega
                  go_wp2_with fail
                  refine (HIH.out cb2 md t b _ HOB.out (HG0.out.trans HGB.out) (HEB.out.all (HEA.out.all HD.out)) (by omega) (by omega) (by rw [HEB.out.len, HEA.out.len]; exact hb) (by rw [HEB.out.len, HEA.out.len]; exact HLL.out) (HSPL.out.s3.out HEB.out (.inr (Nat.le_refl _))) (HSPL.out.s4.out HEB.out (.inr (by omega))) (by omega)).mono ?_
                  rintro e x3 ⟨cc, rfl, he, hs, ho, hg⟩
                  have HEC := Lib.hid he
                  have HSC := Lib.hid hs
                  have HOC := Lib.hid ho
                  have HGC := Lib.hid (HGB.out.trans hg)
                  clear he hs ho hg
                  go_wp2
                  refine bodyPost_ret (results_none rfl _ _ _) rfl ⟨cc, rfl, (HEA.out.trans (HEB.out.wide (Nat.le_refl _) (by omega))).trans (HEC.out.wide (by omega) (Nat.le_refl _)), ?_, HOC.out, HGC.out⟩
                  exact Srt.glue (HSB.out.out HEC.out (.inl (Nat.le_refl _))) HSC.out (cross_ed (lt := fun x y => cm x y < 0) (by rw [HEA.out.len]; exact hb) HSPL.out.cr HEB.out HEC.out)
                ·
                  have d5 : decide ((md : Int) < t) = true := by simp; omega
                  have d6 : decide ((t : Int) < b) = false := by simp; omega
                  have hs0 : Srt (fun x y => cm x y < 0) cb2 md b := by
                    obtain rfl : t = b := by omega
                    exact HSPL.out.s3.out HEB.out (.inr (Nat.le_refl _))
                  obtain ⟨cc, he, hs, ho, hg⟩ : ∃ cc, Ed cb2 md b cc ∧ Srt (fun x y => cm x y < 0) cc md b ∧ OwnN _ base (.slice (some ⟨g, 0, none⟩) n c) cc ∧ w.grownBy _ (some g) := ⟨cb2, .refl, hs0, HOB.out, HGB.out⟩
                  clear hs0
                  have HEC := Lib.hid he
                  have HSC := Lib.hid hs
                  have HOC := Lib.hid ho
                  have HGC := Lib.hid hg
                  clear he hs ho hg
                  go_wp2
                  refine bodyPost_ret (results_none rfl _ _ _) rfl ⟨cc, rfl, (HEA.out.trans (HEB.out.wide (Nat.le_refl _) (by omega))).trans (HEC.out.wide (by omega) (Nat.le_refl _)), ?_, HOC.out, HGC.out⟩
                  exact Srt.glue (HSB.out.out HEC.out (.inl (Nat.le_refl _))) HSC.out (cross_ed (lt := fun x y => cm x y < 0) (by rw [HEA.out.len]; exact hb) HSPL.out.cr HEB.out HEC.out)
              ·
                have d5 : decide ((md : Int) < t) = false := by simp; omega
                have hs0 : Srt (fun x y => cm x y < 0) cb2 md b := by
                  obtain rfl : md = t := by omega
                  exact HSPL.out.s4.out HEB.out (.inr (Nat.le_refl _))
                obtain ⟨cc, he, hs, ho, hg⟩ : ∃ cc, Ed cb2 md b cc ∧ Srt (fun x y => cm x y < 0) cc md b ∧ OwnN _ base (.slice (some ⟨g, 0, none⟩) n c) cc ∧ w.grownBy _ (some g) := ⟨cb2, .refl, hs0, HOB.out, HGB.out⟩
                clear hs0
                have HEC := Lib.hid he
                have HSC := Lib.hid hs
                have HOC := Lib.hid ho
                have HGC := Lib.hid hg
                clear he hs ho hg
                go_wp2
                refine bodyPost_ret (results_none rfl _ _ _) rfl ⟨cc, rfl, (HEA.out.trans (HEB.out.wide (Nat.le_refl _) (by omega))).trans (HEC.out.wide (by omega) (Nat.le_refl _)), ?_, HOC.out, HGC.out⟩
                exact Srt.glue (HSB.out.out HEC.out (.inl (Nat.le_refl _))) HSC.out (cross_ed (lt := fun x y => cm x y < 0) (by rw [HEA.out.len]; exact hb) HSPL.out.cr HEB.out HEC.out)
          ·
            have d3 : decide ((a : Int) < i) = false := by simp; omega
            have hs0 : Srt (fun x y => cm x y < 0) ca a md := by
              obtain rfl : a = i := by omega
              exact HSPL.out.s2
            obtain ⟨cb2, he, hs, ho, hg⟩ : ∃ cb2, Ed ca a md cb2 ∧ Srt (fun x y => cm x y < 0) cb2 a md ∧ OwnN _ base (.slice (some ⟨g, 0, none⟩) n c) cb2 ∧ w.grownBy _ (some g) := ⟨ca, .refl, hs0, HOA.out, HGA.out⟩
            clear hs0
            have HEB := Lib.hid he
            have HSB := Lib.hid hs
            have HOB := Lib.hid ho
            have HGB := Lib.hid hg
            clear he hs ho hg
            by_cases gc1 : md < t
            · by_cases gc2 : t < b
              ·
                have d5 : decide ((md : Int) < t) = true := by simp; omega
                have d6 : decide ((t : Int) < b) = true := by simp; omega
                go_wp2_with fail
                refine (HIH.out cb2 md t b _ HOB.out (HG0.out.trans HGB.out) (HEB.out.all (HEA.out.all HD.out)) (by omega) (by omega) (by rw [HEB.out.len, HEA.out.len]; exact hb) (by rw [HEB.out.len, HEA.out.len]; exact HLL.out) (HSPL.out.s3.out HEB.out (.inr (Nat.le_refl _))) (HSPL.out.s4.out HEB.out (.inr (by omega))) (by omega)).mono ?_
                rintro e x3 ⟨cc, rfl, he, hs, ho, hg⟩
                have HEC := Lib.hid he
                have HSC := Lib.hid hs
                have HOC := Lib.hid ho
                have HGC := Lib.hid (HGB.out.trans hg)
                clear he hs ho hg
                go_wp2
                refine bodyPost_ret (results_none rfl _ _ _) rfl ⟨cc, rfl, (HEA.out.trans (HEB.out.wide (Nat.le_refl _) (by omega))).trans (HEC.out.wide (by omega) (Nat.le_refl _)), ?_, HOC.out, HGC.out⟩
                exact Srt.glue (HSB.out.out HEC.out (.inl (Nat.le_refl _))) HSC.out (cross_ed (lt := fun x y => cm x y < 0) (by rw [HEA.out.len]; exact hb) HSPL.out.cr HEB.out HEC.out)
              ·
                have d5 : decide ((md : Int) < t) = true := by simp; omega
                have d6 : decide ((t : Int) < b) = false := by simp; omega
                have hs0 : Srt (fun x y => cm x y < 0) cb2 md b := by
                  obtain rfl : t = b := by omega
                  exact HSPL.out.s3.out HEB.out (.inr (Nat.le_refl _))
                obtain ⟨cc, he, hs, ho, hg⟩ : ∃ cc, Ed cb2 md b cc ∧ Srt (fun x y => cm x y < 0) cc md b ∧ OwnN _ base (.slice (some ⟨g, 0, none⟩) n c) cc ∧ w.grownBy _ (some g) := ⟨cb2, .refl, hs0, HOB.out, HGB.out⟩
                clear hs0
                have HEC := Lib.hid he
                have HSC := Lib.hid hs
                have HOC := Lib.hid ho
                have HGC := Lib.hid hg
                clear he hs ho hg
                go_wp2
                refine bodyPost_ret (results_none rfl _ _ _) rfl ⟨cc, rfl, (HEA.out.trans (HEB.out.wide (Nat.le_refl _) (by omega))).trans (HEC.out.wide (by omega) (Nat.le_refl _)), ?_, HOC.out, HGC.out⟩
                exact Srt.glue (HSB.out.out HEC.out (.inl (Nat.le_refl _))) HSC.out (cross_ed (lt := fun x y => cm x y < 0) (by rw [HEA.out.len]; exact hb) HSPL.out.cr HEB.out HEC.out)
            ·
              have d5 : decide ((md : Int) < t) = false := by simp; omega
              have hs0 : Srt (fun x y => cm x y < 0) cb2 md b := by
                obtain rfl : md = t := by omega
                exact HSPL.out.s4.out HEB.out (.inr (Nat.le_refl _))
              obtain ⟨cc, he, hs, ho, hg⟩ : ∃ cc, Ed cb2 md b cc ∧ Srt (fun x y => cm x y < 0) cc md b ∧ OwnN _ base (.slice (some ⟨g, 0, none⟩) n c) cc ∧ w.grownBy _ (some g) := ⟨cb2, .refl, hs0, HOB.out, HGB.out⟩
              clear hs0
              have HEC := Lib.hid he
              have HSC := Lib.hid hs
              have HOC := Lib.hid ho
              have HGC := Lib.hid hg
              clear he hs ho hg
              go_wp2
              refine bodyPost_ret (results_none rfl _ _ _) rfl ⟨cc, rfl, (HEA.out.trans (HEB.out.wide (Nat.le_refl _) (by omega))).trans (HEC.out.wide (by omega) (Nat.le_refl _)), ?_, HOC.out, HGC.out⟩
              exact Srt.glue (HSB.out.out HEC.out (.inl (Nat.le_refl _))) HSC.out (cross_ed (lt := fun x y => cm x y < 0) (by rw [HEA.out.len]; exact hb) HSPL.out.cr HEB.out HEC.out)
theorem symN_any (g c base n cb : Nat) (caps : Array Value) (D : Int → Prop) (cm : Int → Int → Int) (w0 : World) (hcm : CmpOk cb caps (fun x : Int => Value.int .i64 x) D cm w0 g) (hL : Lin D fun x y => cm x y < 0) : ∀ (N : Nat) (l : List Int) (a m b : Nat) (w : World), OwnN w base (.slice (some ⟨g, 0, none⟩) n c) l → w0.grownBy w (some g) → All D l → a < m → m < b → b ≤ l.length → l.length < 1099511627776 → Srt (fun x y => cm x y < 0) l a m → Srt (fun x y => cm x y < 0) l m b → b - a ≤ N → Calls Tryz.prog 119 #[.slice (some ⟨g, 0, none⟩) n c, .int .i64 a, .int .i64 m, .int .i64 b, .func (.func cb) #[] caps] w (TurnedN l g c base n a b (fun l' => Srt (fun x y => cm x y < 0) l' a b) w) := by
  intro N
  induction N with
  | zero => intro l a m b w h hg0 hD ham hmb hb hl k1 k2 hN; exfalso; omega
  | succ N ih => intro l a m b w h hg0 hD ham hmb hb hl k1 k2 hN; exact symN_step g c base n cb caps D cm w0 hcm hL N ih l a m b w h hg0 hD ham hmb hb hl k1 k2 hN
end Go.Proofs.YtlglfcdobbocnaaGreat
