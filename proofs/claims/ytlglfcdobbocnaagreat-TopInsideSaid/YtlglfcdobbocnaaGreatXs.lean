/- faces.opened: a map that was built opens. -/
import Derived.Test.YtlglfcdobbocnaaGreatXr
set_option maxRecDepth 100000
namespace Go.Proofs.YtlglfcdobbocnaaGreat
open Go Go.Proofs Go.RowKit
attribute [local go_sem] Oper.semAt_some
structure Opening (P : List Pt) (E : List (Nat × Nat)) (Ed : List Five) (ne : Nat) (mf : Int) : Prop where
  meets : ∀ i k, k < i → i < ne → meetG (eS P E i) (eS P E k) = 0 ∨ meetG (eS P E i) (eS P E k) = 1
  ends : Ends P E
  laid : Laid P E
  reach : AllReached P E
  one : (numE P E (2 * E.length)).outside = 1
  flat : (numE P E (2 * E.length)).flat = false
  many : ((numE P E (2 * E.length)).many : Int) = mf
  left : ∀ i, i < ne → (Ed.getD i (0, 0, 0, 0, 0)).2.2.1 = faceE P E (2 * i)
  right : ∀ i, i < ne → (Ed.getD i (0, 0, 0, 0, 0)).2.2.2.1 = faceE P E (2 * i + 1)
set_option maxHeartbeats 4000000 in
theorem opened_any (P : List Pt) (E : List (Nat × Nat)) (Ed : List Five) (ap : Option Addr) (np cp : Nat) (ae : Option Addr) (ne ce : Nat) (mf : Int) (w : World) (h : MapD w ap ae P E Ed np ne) (hl : Listed P E Ed np ne mf) (ho : Opening P E Ed ne mf) (hoff : ∀ x, ap = some x → x.block < w.heap.size) :
    Calls Tryz.prog 61 #[mapV ap np cp ae ne ce mf] w (fun e w' => ∃ g, e = .returned (.tuple #[.pointer (some ⟨g, 0, none⟩), .int .i64 0]) ∧ Kept w w' ∧ WebM w' g ap np cp ae ne ce mf P E Ed (numE P E (2 * E.length)).face) := by
  have H := Lib.hid h
  have HL := Lib.hid hl
  have HO := Lib.hid ho
  have HOFF := Lib.hid hoff
  obtain ⟨hnp, hne3, hne4, -, -, -, -, -, -, -, -⟩ := hl
  obtain ⟨w0, hw0⟩ : ∃ w0, w.alloc (.cells #[.slice ap np cp, .slice ae ne ce, .int .i64 mf] 29) = w0 := ⟨_, rfl⟩
  obtain ⟨mb, hmb⟩ : ∃ mb, w.heap.size = mb := ⟨_, rfl⟩
  have m0 : w0.cell? ⟨mb, 0, none⟩ = some (.slice ap np cp) := by rw [← hw0, ← hmb]; simp [go_sem]
  have m1 : w0.cell? ⟨mb, 1, none⟩ = some (.slice ae ne ce) := by rw [← hw0, ← hmb]; simp [go_sem]
  have m2 : w0.cell? ⟨mb, 2, none⟩ = some (.int .i64 mf) := by rw [← hw0, ← hmb]; simp [go_sem]
  have HK0 : Hid (Kept w w0) := Lib.hid (by rw [← hw0]; exact (Kept.refl w).alloc _)
  have HM0 := Lib.hid m0
  have HM1 := Lib.hid m1
  have HM2 := Lib.hid m2
  have hml := lt_of_cell m0
  have HCN : Hid (E.length = ne) := Lib.hid (by rw [← h.are.len, h.he])
  clear h ho hoff
  go_enter Tryz.func61, Tryz.ntmps61
  go_wp2_with fail
  refine (listed_any P E Ed ap np cp ae ne ce mf w0 (H.out.kept HK0.out) HL.out).mono ?_
  rintro e w1 ⟨rfl, hk1⟩
  have HK1 := Lib.hid hk1
  have m0 := hk1.cell m0
  have m1 := hk1.cell m1
  have m2 := hk1.cell m2
  have hml := lt_of_cell m0
  clear hk1 hw0
  go_wp2
  go_loopw [18] (fun iv wr => ∃ i : Nat, i ≤ ne ∧ iv = .int .i64 i ∧ Kept w0 wr) (fun iv _ => ne - (intOf iv).toNat)
  case atStart => exact ⟨0, Nat.zero_le _, rfl, HK1.out⟩
  case round =>
    clear m0 m1 m2 hml HK1
    obtain ⟨i, hi, rfl, hkw⟩ := hrel
    have HKI := Lib.hid hkw
    have m0 := hkw.cell HM0.out
    have m1 := hkw.cell HM1.out
    have m2 := hkw.cell HM2.out
    have hml := lt_of_cell m0
    clear hkw
    by_cases hlt : i < ne
    · clear m0 m1 m2 hml
      go_wp2
      go_loopw [22] (fun kv wr => ∃ k : Nat, k ≤ i ∧ kv = .int .i64 k ∧ Kept w0 wr) (fun kv _ => i - (intOf kv).toNat)
      case atStart => exact ⟨0, Nat.zero_le _, rfl, HKI.out⟩
      case round =>
        obtain ⟨k, hk, rfl, hkw⟩ := hrel
        have HKW := Lib.hid hkw
        have m0 := hkw.cell HM0.out
        have m1 := hkw.cell HM1.out
        have m2 := hkw.cell HM2.out
        have hml := lt_of_cell m0
        clear hkw
        by_cases hki : k < i
        · have HMT := Lib.hid (HO.out.meets i k hki hlt)
          have HM0' := Lib.hid m0
          have HM1' := Lib.hid m1
          have HM2' := Lib.hid m2
          clear m0 m1 m2 hml
          go_wp2
          refine region_class (fun Z => Kept wr Z) 7 (by kernel_rfl) (by kernel_rfl) (Kept.refl _).drew ?_
          simp only [List.take_succ_cons, List.take_zero, List.drop_succ_cons, List.drop_zero]
          refine wpQuiet_yield (mapV ap np cp ae ne ce mf) (by rfl) (fun Z hZ => ?_) ?_
          · have c0 := hZ.cell HM0'.out
            have c1 := hZ.cell HM1'.out
            have c2 := hZ.cell HM2'.out
            have hl := lt_of_cell c0
            go_simp
          simp only [Act.put, List.setIfInBounds_toArray, List.set_cons_zero, List.set_cons_succ]
          refine wpQuiet_yield (.int .i64 i) (by rfl) (fun Z hZ => ?_) ?_
          · go_simp
          simp only [Act.put, List.setIfInBounds_toArray, List.set_cons_zero, List.set_cons_succ]
          refine wpQuiet_yield (sgV (eS P E i)) (by rfl) (fun Z hZ => ?_) ?_
          · go_simp
            exact (seg_any P E Ed ap np cp ae ne ce mf i Z ((H.out.kept HK0.out).kept (HKW.out.trans hZ)) HO.out.ends hlt).mono fun e Z' h => ⟨h.1, hZ.trans h.2⟩
          simp only [Act.put, List.setIfInBounds_toArray, List.set_cons_zero, List.set_cons_succ]
          refine wpQuiet_yield (mapV ap np cp ae ne ce mf) (by rfl) (fun Z hZ => ?_) ?_
          · have c0 := hZ.cell HM0'.out
            have c1 := hZ.cell HM1'.out
            have c2 := hZ.cell HM2'.out
            have hl := lt_of_cell c0
            go_simp
          simp only [Act.put, List.setIfInBounds_toArray, List.set_cons_zero, List.set_cons_succ]
          refine wpQuiet_yield (.int .i64 k) (by rfl) (fun Z hZ => ?_) ?_
          · go_simp
          simp only [Act.put, List.setIfInBounds_toArray, List.set_cons_zero, List.set_cons_succ]
          refine wpQuiet_yield (sgV (eS P E k)) (by rfl) (fun Z hZ => ?_) ?_
          · go_simp
            exact (seg_any P E Ed ap np cp ae ne ce mf k Z ((H.out.kept HK0.out).kept (HKW.out.trans hZ)) HO.out.ends (by omega)).mono fun e Z' h => ⟨h.1, hZ.trans h.2⟩
          simp only [Act.put, List.setIfInBounds_toArray, List.set_cons_zero, List.set_cons_succ]
          refine wpQuiet_yield (.int .u8 (meetG (eS P E i) (eS P E k))) (by rfl) (fun Z hZ => ?_) ?_
          · go_simp
            exact (meetG_any (eS P E i) (eS P E k) Z).mono fun e Z' h => ⟨h.1, hZ.trans h.2⟩
          simp only [Act.put, List.setIfInBounds_toArray, List.set_cons_zero, List.set_cons_succ]
          refine wpQuiet_nil ?_
          intro X2 hk2
          have HX2 := Lib.hid (HKW.out.trans hk2)
          clear hk2
          rcases HMT.out with e | e
          · rw [e]
            go_wp2
            go_roundw
            case rel => exact ⟨k + 1, by omega, by go_num, HX2.out⟩
            case measure => simp [intOf]; omega
          · rw [e]
            go_wp2
            go_roundw
            case rel => exact ⟨k + 1, by omega, by go_num, HX2.out⟩
            case measure => simp [intOf]; omega
        · obtain rfl : k = i := by omega
          clear m0 m1 m2 hml
          go_wp2
          go_roundw
          case rel => exact ⟨k + 1, by omega, by go_num, HKW.out⟩
          case measure => simp [intOf]; omega
    · obtain rfl : i = ne := by omega
      have HKB := Lib.hid (HK0.out.trans HKI.out)
      go_wp2_with fail
      refine (spread_any P E Ed ap np cp ae i ce mf wr (by omega) H.out.hp H.out.he (H.out.kept HKB.out).pts (H.out.kept HKB.out).eds H.out.are HO.out.ends HL.out.ok HO.out.laid (fun x hx => Nat.lt_of_lt_of_le (HOFF.out x hx) HKB.out.size)).mono ?_
      rintro e wa ⟨g, rfl, hgb, hweb, g0, g1, g2, g5, gfz, hka⟩
      have HG := Lib.hid hweb
      have HG0 := Lib.hid g0
      have HG1 := Lib.hid g1
      have HG2 := Lib.hid g2
      have HG5 := Lib.hid g5
      have HGF := Lib.hid gfz
      have HKA := Lib.hid (HKI.out.trans hka)
      have HGB : Hid (w0.heap.size ≤ g) := Lib.hid (Nat.le_trans HKI.out.size hgb)
      have HGL := Lib.hid (lt_of_cell g0)
      have m0 := hka.cell m0
      have m1 := hka.cell m1
      have m2 := hka.cell m2
      have hml := lt_of_cell m0
      clear hweb g0 g1 g2 g5 gfz hka hgb
      go_wp2_with fail
      refine (connected_any g P E wa HG.out HO.out.ends (by rw [H.out.hp]; omega)).mono ?_
      rintro e wb ⟨b, rfl, hb, hkb⟩
      obtain rfl : b = true := hb.2 HO.out.reach
      have HKB2 := Lib.hid hkb
      have m0 := hkb.cell m0
      have m1 := hkb.cell m1
      have m2 := hkb.cell m2
      have hml := lt_of_cell m0
      clear hkb hb
      go_wp2_with fail
      refine (number_any g P E wb (HG.out.kept HKB2.out) HO.out.ends HL.out.ok ⟨_, HKB2.out.cell HG5.out⟩ ((HKB2.out.cells.2 _ 5 HGL.out).trans (HGF.out 5))).mono ?_
      rintro e wc ⟨f, sb, rfl, hna⟩
      rw [HO.out.one, HO.out.flat, HO.out.many]
      have HNA := Lib.hid hna
      have hmg : mb ≠ g := fun e => by
        have h1 := HGB.out
        have h2 := lt_of_cell HM0.out
        omega
      have m0 := hna.stay _ _ _ m0 (by omega)
      have m1 := hna.stay _ _ _ m1 (by omega)
      have m2 := hna.stay _ _ _ m2 (by omega)
      have hml := lt_of_cell m0
      have HKC : Hid (Kept w0 wc) := Lib.hid ((HKA.out.trans HKB2.out).grown hna.grown (fun r e => by cases e; exact HGB.out))
      have HC5 := Lib.hid hna.cell
      have HFI := Lib.hid (OwnG.intsAt hna.face).1
      have HFL : Hid ((numE P E (2 * E.length)).face.length = 2 * E.length) := Lib.hid (numE_ok P E (2 * E.length) (Nat.le_refl _)).fl
      have HFE : Hid (∀ d, faceE P E d = (numE P E (2 * E.length)).face.getD d 0) := Lib.hid (fun _ => rfl)
      have HWM : Hid (WebM wc g ap np cp ae i ce mf P E Ed (numE P E (2 * E.length)).face) := Lib.hid ⟨(HG.out.kept HKB2.out).stay hna.stay, hna.stay _ _ _ (HKB2.out.cell HG0.out) (by omega), hna.stay _ _ _ (HKB2.out.cell HG1.out) (by omega), hna.stay _ _ _ (HKB2.out.cell HG2.out) (by omega), (H.out.kept HK0.out).kept HKC.out, ⟨_, _, by rw [HFL.out]; exact hna.cell, (OwnG.intsAt hna.face).1⟩, HO.out.ends, HL.out.ok⟩
      clear hna
      generalize hfc : (numE P E (2 * E.length)).face = face at *
      have HFC := Lib.hid hfc
      clear hfc
      obtain ⟨N, hN⟩ : ∃ N, 2 * E.length = N := ⟨_, rfl⟩
      rw [hN] at HC5 HFL
      have HM0'' := Lib.hid m0
      have HM1'' := Lib.hid m1
      have hNi : N = 2 * i := by rw [← hN, HCN.out]
      have HNI := Lib.hid hNi
      clear hN hNi
      clear HNA
      go_wp2
      clear m0 m1 m2 hml
      go_loopw [61] (fun iv wr => ∃ j : Nat, j ≤ i ∧ iv = .int .i64 j ∧ Kept wc wr) (fun iv _ => i - (intOf iv).toNat)
      case atStart => exact ⟨0, Nat.zero_le _, rfl, Kept.refl wc⟩
      case round =>
        obtain ⟨j, hj, rfl, hkw⟩ := hrel
        have HKJ := Lib.hid hkw
        clear hkw
        by_cases hlt : j < i
        · have hil : j < Ed.length := by rw [H.out.he]; exact hlt
          obtain ⟨B, off, rfl, c0, c1, c2, c3, c4⟩ := (H.out.eds.kept (HK0.out.trans (HKC.out.trans HKJ.out))) j hil
          have hL := HO.out.left j hlt
          have hR := HO.out.right j hlt
          have hx : Ed.getD j (0, 0, 0, 0, 0) = Ed[j] := by rw [List.getD_eq_getElem?_getD, List.getElem?_eq_getElem hil]; rfl
          rw [hx, HFE.out] at hL hR
          generalize Ed[j] = x at c0 c1 c2 c3 c4 hL hR
          obtain ⟨x1, x2, x3, x4, x5⟩ := x
          simp only [] at c0 c1 c2 c3 c4 hL hR
          clear hx
          have hni := HNI.out
          have f0 := (HFI.out.kept HKJ.out) (2 * j) (by rw [HFL.out]; omega)
          have f1 := (HFI.out.kept HKJ.out) (2 * j + 1) (by rw [HFL.out]; omega)
          obtain ⟨fb, fo, ef, f0⟩ := f0
          cases ef
          obtain ⟨fb, fo, ef, f1⟩ := f1
          cases ef
          rw [List.getD_eq_getElem?_getD, List.getElem?_eq_getElem (by rw [HFL.out]; omega)] at hL hR
          simp only [Option.getD_some] at hL hR
          rw [← hL] at f0
          rw [← hR] at f1
          simp only [Nat.zero_add] at f0 f1
          clear hL hR
          obtain ⟨y1, z1, k1, e1, e2, hg1, hb1, hf1, hk2, hb2, hz1⟩ := new_five 87 wr (x1, x2, x3, x4, x5)
          have HKZ := Lib.hid (HKJ.out.trans hk2)
          have HB2 := Lib.hid hb2
          have HF0 := Lib.hid (hk2.cell f0)
          have HF1 := Lib.hid (hk2.cell f1)
          have HC5 := Lib.hid (HKZ.out.cell HC5.out)
          have m0' := HKZ.out.cell HM0''.out
          have m1' := HKZ.out.cell HM1''.out
          clear hk2 f0 f1
          obtain ⟨a0, a1, a2, a3, a4⟩ := hb1
          obtain ⟨r0, r1, r2, r3, r4⟩ := hb2
          simp only [] at r0 r1 r2 r3 r4 e2
          go_wp2
          clear r0 r1 r2 r3 r4 c0 c1 c2 c3 c4 e1 e2 a0 a1 a2 a3 a4 hf1
          obtain ⟨M, hM⟩ : ∃ M, 2 * j = M := ⟨_, rfl⟩
          have w1 : IntKind.i64.wrap (2 * (j : Int)) = (M : Int) := by rw [show 2 * (j : Int) = (M : Int) by omega]; exact IntWalk.i64_in _ (by omega)
          have w2 : IntKind.i64.wrap ((M : Int) + 1) = ((M + 1 : Nat) : Int) := by rw [show (M : Int) + 1 = ((M + 1 : Nat) : Int) by omega]; exact IntWalk.i64_in _ (by omega)
          have l1 : M < N := by omega
          have l2 : M + 1 < N := by omega
          rw [hM] at HF0 HF1
          clear hM hni
          refine wp_region_quiet (C := fun Z => Kept z1 Z) (by kernel_rfl) (by kernel_rfl) (Kept.refl _).drew ?_
          simp only []
          refine wpQuiet_yield (.pointer (some ⟨k1, 2, none⟩)) (by rfl) (fun Z hZ => ?_) ?_
          · go_simp
          simp only [Act.put, List.setIfInBounds_toArray, List.set_cons_zero, List.set_cons_succ]
          refine wpQuiet_yield (.int .i64 x3) (by rfl) (fun Z hZ => ?_) ?_
          · have c0 := (HB2.out.kept hZ).c2
            have hl := lt_of_cell c0
            go_simp
          simp only [Act.put, List.setIfInBounds_toArray, List.set_cons_zero, List.set_cons_succ]
          refine wpQuiet_yield (.pointer (some ⟨g, 0, none⟩)) (by rfl) (fun Z hZ => ?_) ?_
          · go_simp
          simp only [Act.put, List.setIfInBounds_toArray, List.set_cons_zero, List.set_cons_succ]
          refine wpQuiet_yield (.pointer (some ⟨g, 0, none⟩)) (by rfl) (fun Z hZ => ?_) ?_
          · go_simp
          simp only [Act.put, List.setIfInBounds_toArray, List.set_cons_zero, List.set_cons_succ]
          refine wpQuiet_yield (.pointer (some ⟨g, 5, none⟩)) (by rfl) (fun Z hZ => ?_) ?_
          · go_simp
          simp only [Act.put, List.setIfInBounds_toArray, List.set_cons_zero, List.set_cons_succ]
          refine wpQuiet_yield (.slice (some ⟨f, 0, none⟩) N N) (by rfl) (fun Z hZ => ?_) ?_
          · have c0 := hZ.cell HC5.out
            have hl := lt_of_cell c0
            go_simp
          simp only [Act.put, List.setIfInBounds_toArray, List.set_cons_zero, List.set_cons_succ]
          refine wpQuiet_yield (.int .i64 j) (by rfl) (fun Z hZ => ?_) ?_
          · go_simp
          simp only [Act.put, List.setIfInBounds_toArray, List.set_cons_zero, List.set_cons_succ]
          refine wpQuiet_yield (.int .i64 M) (by rfl) (fun Z hZ => ?_) ?_
          · go_simp
          simp only [Act.put, List.setIfInBounds_toArray, List.set_cons_zero, List.set_cons_succ]
          refine wpQuiet_yield (.pointer (some ⟨f, M, none⟩)) (by rfl) (fun Z hZ => ?_) ?_
          · go_simp
          simp only [Act.put, List.setIfInBounds_toArray, List.set_cons_zero, List.set_cons_succ]
          refine wpQuiet_yield (.int .i64 x3) (by rfl) (fun Z hZ => ?_) ?_
          · have c0 := hZ.cell HF0.out
            have hl := lt_of_cell c0
            go_simp
          simp only [Act.put, List.setIfInBounds_toArray, List.set_cons_zero, List.set_cons_succ]
          refine wpQuiet_yield (.bool false) (by rfl) (fun Z hZ => ?_) ?_
          · go_simp
          simp only [Act.put, List.setIfInBounds_toArray, List.set_cons_zero, List.set_cons_succ]
          refine wpQuiet_yield (.bool false) (by rfl) (fun Z hZ => ?_) ?_
          · go_simp
          simp only [Act.put, List.setIfInBounds_toArray, List.set_cons_zero, List.set_cons_succ]
          refine wpQuiet_yield (.pointer (some ⟨k1, 3, none⟩)) (by rfl) (fun Z hZ => ?_) ?_
          · go_simp
          simp only [Act.put, List.setIfInBounds_toArray, List.set_cons_zero, List.set_cons_succ]
          refine wpQuiet_yield (.int .i64 x4) (by rfl) (fun Z hZ => ?_) ?_
          · have c0 := (HB2.out.kept hZ).c3
            have hl := lt_of_cell c0
            go_simp
          simp only [Act.put, List.setIfInBounds_toArray, List.set_cons_zero, List.set_cons_succ]
          refine wpQuiet_yield (.pointer (some ⟨g, 0, none⟩)) (by rfl) (fun Z hZ => ?_) ?_
          · go_simp
          simp only [Act.put, List.setIfInBounds_toArray, List.set_cons_zero, List.set_cons_succ]
          refine wpQuiet_yield (.pointer (some ⟨g, 0, none⟩)) (by rfl) (fun Z hZ => ?_) ?_
          · go_simp
          simp only [Act.put, List.setIfInBounds_toArray, List.set_cons_zero, List.set_cons_succ]
          refine wpQuiet_yield (.pointer (some ⟨g, 5, none⟩)) (by rfl) (fun Z hZ => ?_) ?_
          · go_simp
          simp only [Act.put, List.setIfInBounds_toArray, List.set_cons_zero, List.set_cons_succ]
          refine wpQuiet_yield (.slice (some ⟨f, 0, none⟩) N N) (by rfl) (fun Z hZ => ?_) ?_
          · have c0 := hZ.cell HC5.out
            have hl := lt_of_cell c0
            go_simp
          simp only [Act.put, List.setIfInBounds_toArray, List.set_cons_zero, List.set_cons_succ]
          refine wpQuiet_yield (.int .i64 j) (by rfl) (fun Z hZ => ?_) ?_
          · go_simp
          simp only [Act.put, List.setIfInBounds_toArray, List.set_cons_zero, List.set_cons_succ]
          refine wpQuiet_yield (.int .i64 M) (by rfl) (fun Z hZ => ?_) ?_
          · go_simp
          simp only [Act.put, List.setIfInBounds_toArray, List.set_cons_zero, List.set_cons_succ]
          refine wpQuiet_yield (.int .i64 ((M + 1 : Nat) : Int)) (by rfl) (fun Z hZ => ?_) ?_
          · go_simp
          simp only [Act.put, List.setIfInBounds_toArray, List.set_cons_zero, List.set_cons_succ]
          refine wpQuiet_yield (.pointer (some ⟨f, M + 1, none⟩)) (by rfl) (fun Z hZ => ?_) ?_
          · go_simp
            rw [if_pos ⟨by omega, by omega⟩]
            exact ⟨rfl, rfl⟩
          simp only [Act.put, List.setIfInBounds_toArray, List.set_cons_zero, List.set_cons_succ]
          refine wpQuiet_yield (.int .i64 x4) (by rfl) (fun Z hZ => ?_) ?_
          · have c0 := hZ.cell HF1.out
            have hl := lt_of_cell c0
            go_simp
          simp only [Act.put, List.setIfInBounds_toArray, List.set_cons_zero, List.set_cons_succ]
          refine wpQuiet_yield (.bool false) (by rfl) (fun Z hZ => ?_) ?_
          · go_simp
          simp only [Act.put, List.setIfInBounds_toArray, List.set_cons_zero, List.set_cons_succ]
          refine wpQuiet_yield (.bool false) (by rfl) (fun Z hZ => ?_) ?_
          · go_simp
          simp only [Act.put, List.setIfInBounds_toArray, List.set_cons_zero, List.set_cons_succ]
          refine wpQuiet_nil ?_
          intro X2 hk2
          have HX2 := Lib.hid (HKZ.out.trans hk2)
          clear hk2 m0' m1'
          go_wp2
          go_roundw
          case rel => exact ⟨j + 1, by omega, by go_num, HX2.out⟩
          case measure => simp [intOf]; omega
        · obtain rfl : j = i := by omega
          go_wp2
          refine bodyPost_ret (results_tmp2 rfl _ _ _) rfl ?_
          exact ⟨g, rfl, HK0.out.trans (HKC.out.trans HKJ.out), by rw [HFC.out]; exact HWM.out.kept HKJ.out⟩
theorem Opening.sound {P : List Pt} {E : List (Nat × Nat)} {Ed : List Five} {np ne : Nat} {mf : Int} (ho : Opening P E Ed ne mf) (hl : Listed P E Ed np ne mf) : Sound P E :=
  ⟨ho.laid, ho.reach, ho.one, ho.flat, by have := ho.many; have := hl.m1; omega, hl.ok⟩
/-- A map that is built opens. -/
theorem mapOk {P : List Pt} {E : List (Nat × Nat)} {Ed : List Five} {ap : Option Addr} {np cp : Nat} {ae : Option Addr} {ne ce : Nat} {mf : Int} {w : World} (h : MapD w ap ae P E Ed np ne) (hl : Listed P E Ed np ne mf) (ho : Opening P E Ed ne mf) (hoff : ∀ x, ap = some x → x.block < w.heap.size) : MapOk P E Ed ap np cp ae ne ce mf w := by
  have hcn : E.length = ne := by rw [← h.are.len, h.he]
  refine ⟨fun W hW => opened_any P E Ed ap np cp ae ne ce mf W (h.kept hW) hl ho fun x hx => Nat.lt_of_lt_of_le (hoff x hx) hW.size, ?_, ho.right, ho.many.symm, fun f h1 h2 => (least_ok (ho.sound hl) h1 h2).1, ho.ends.few⟩
  rw [← hcn]
  exact ho.laid.fig
end Go.Proofs.YtlglfcdobbocnaaGreat
