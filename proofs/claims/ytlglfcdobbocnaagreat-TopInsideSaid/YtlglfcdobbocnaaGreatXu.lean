/- slices.BinarySearchFunc at points: where a point stands. -/
import Derived.Test.YtlglfcdobbocnaaGreatXt
set_option maxRecDepth 100000
namespace Go.Proofs.YtlglfcdobbocnaaGreat
open Go Go.Proofs Go.RowKit
attribute [local go_sem] Oper.semAt_some
theorem strict_at {l : List Pt} (hs : StrictP l) {i j : Nat} (hi : i < l.length) (hj : j < l.length) : ltP l[i] l[j] ↔ i < j := by
  have hp := List.pairwise_iff_getElem.1 hs
  constructor
  · intro h
    rcases Nat.lt_trichotomy i j with k | k | k
    · exact k
    · subst k; exact absurd h (ltP_irrefl _)
    · exact absurd h (ltP_asymm (hp j i hj hi k))
  · exact fun h => hp i j hi hj h
set_option maxHeartbeats 4000000 in
theorem search_any (l : List Pt) (ao : Option Addr) (c : Nat) (p : Pt) (w : World) (hp : Pairs w ao l) (hs : StrictP l) (hm : p ∈ l) (hl : l.length < 100000) :
    Calls Tryz.prog 52 #[.slice ao l.length c, ptV p, .func (.func 39) #[] #[]] w (Gives (.tuple #[.int .i64 (l.idxOf p), .bool true]) w) := by
  obtain ⟨t, ht, hpt⟩ : ∃ t, ∃ h : t < l.length, l[t] = p := List.mem_iff_getElem.1 hm
  have hidx : l.idxOf p = t := by
    have h1 := List.idxOf_lt_length_of_mem hm
    have h2 : l[l.idxOf p] = p := List.getElem_idxOf h1
    rcases Nat.lt_trichotomy (l.idxOf p) t with k | k | k
    · have := (strict_at hs h1 ht).2 k
      rw [h2, hpt] at this
      exact absurd this (ltP_irrefl _)
    · exact k
    · have := (strict_at hs ht h1).2 k
      rw [h2, hpt] at this
      exact absurd this (ltP_irrefl _)
  rw [hidx]
  have HCM : Hid (∀ i (h : i < l.length), (cmpP l[i] p < 0 ↔ i < t) ∧ (i = t → cmpP l[i] p = 0)) := Lib.hid (fun i h => by
    refine ⟨by rw [cmpP_lt, ← hpt]; exact strict_at hs h ht, fun e => ?_⟩
    subst e
    rw [hpt]
    exact (cmpP_eq p p).2 rfl)
  obtain ⟨b, off, rfl, -, -⟩ := hp t ht
  have HP := Lib.hid hp
  clear hp hs hm hpt hidx
  obtain ⟨N, hN⟩ : ∃ N, l.length = N := ⟨_, rfl⟩
  have HN := Lib.hid hN
  rw [hN] at ht hl ⊢
  clear hN
  obtain ⟨w0, g0, e0, hg0, hz0, hk0, hb0⟩ := alloc_pt w p
  have HK0 := Lib.hid hk0
  have HB0 := Lib.hid hb0
  clear hk0 hb0
  go_enter Tryz.func52, Tryz.ntmps52
  go_wp2
  go_loopw [9, 10] (fun iv jv wr => ∃ i j : Nat, i ≤ t ∧ t ≤ j ∧ i ≤ j ∧ j ≤ N ∧ iv = .int .i64 i ∧ jv = .int .i64 j ∧ (t = j → j = N ∨ t < N) ∧ Kept w0 wr) (fun iv jv _ => (intOf jv).toNat - (intOf iv).toNat)
  case atStart => exact ⟨0, N, by omega, by omega, by omega, Nat.le_refl _, rfl, rfl, fun _ => .inl rfl, Kept.refl _⟩
  case round =>
    clear e0
    obtain ⟨i, j, hit, htj, hij, hjN, rfl, rfl, -, hkw⟩ := hrel
    have HKW := Lib.hid hkw
    clear hkw
    by_cases hlt : i < j
    · obtain ⟨h, hh⟩ : ∃ h, (i + j) / 2 = h := ⟨_, rfl⟩
      have hm : ((i : Int) + j) / 2 = (h : Int) := by omega
      have hh1 : i ≤ h := by omega
      have hh2 : h < j := by omega
      clear hh
      have hhN : h < N := by omega
      have hhl : h < l.length := by rw [HN.out]; exact hhN
      have HC := Lib.hid (HCM.out h hhl)
      obtain ⟨b2, off2, eB, c0, c1⟩ := (HP.out.kept (HK0.out.trans HKW.out)) h hhl
      cases eB
      generalize l[h] = x at c0 c1 HC
      have HC0 := Lib.hid c0
      have HC1 := Lib.hid c1
      clear c0 c1
      go_wp2
      refine wp_region_quiet (C := fun Z => Kept wr Z) (by kernel_rfl) (by kernel_rfl) (Kept.refl _).drew ?_
      simp only []
      refine wpQuiet_yield (.func (.func 39) #[] #[]) (by rfl) (fun Z hZ => ?_) ?_
      · go_simp
      simp only [Act.put, List.setIfInBounds_toArray, List.set_cons_zero, List.set_cons_succ]
      refine wpQuiet_yield (.slice (some ⟨b, off, none⟩) N c) (by rfl) (fun Z hZ => ?_) ?_
      · go_simp
      simp only [Act.put, List.setIfInBounds_toArray, List.set_cons_zero, List.set_cons_succ]
      refine wpQuiet_yield (.int .i64 h) (by rfl) (fun Z hZ => ?_) ?_
      · go_simp
      simp only [Act.put, List.setIfInBounds_toArray, List.set_cons_zero, List.set_cons_succ]
      refine wpQuiet_yield (.pointer (some ⟨b, off + h * 2, none⟩)) (by rfl) (fun Z hZ => ?_) ?_
      · go_simp
      simp only [Act.put, List.setIfInBounds_toArray, List.set_cons_zero, List.set_cons_succ]
      refine wpQuiet_yield (ptV x) (by rfl) (fun Z hZ => ?_) ?_
      · have r0 := hZ.cell HC0.out
        have r1 := hZ.cell HC1.out
        have rb := lt_of_cell r0
        go_simp
      simp only [Act.put, List.setIfInBounds_toArray, List.set_cons_zero, List.set_cons_succ]
      refine wpQuiet_yield (ptV p) (by rfl) (fun Z hZ => ?_) ?_
      · obtain ⟨r0, r1⟩ := (HB0.out.kept HKW.out).kept hZ
        have rb := lt_of_cell r0
        go_simp
      simp only [Act.put, List.setIfInBounds_toArray, List.set_cons_zero, List.set_cons_succ]
      refine wpQuiet_yield (.int .i64 (cmpP x p)) (by rfl) (fun Z hZ => ?_) ?_
      · go_simp
        exact (comparePoints_any x p Z).mono fun e Z' h => ⟨h.1, hZ.trans h.2⟩
      simp only [Act.put, List.setIfInBounds_toArray, List.set_cons_zero, List.set_cons_succ]
      by_cases hc : cmpP x p < 0
      · have hht : h < t := HC.out.1.1 hc
        have t1 : decide (cmpP x p < 0) = true := by simpa using hc
        refine wpQuiet_yield (.bool true) (by rfl) (fun Z hZ => ?_) ?_
        · go_simp
        simp only [Act.put, List.setIfInBounds_toArray, List.set_cons_zero, List.set_cons_succ]
        refine wpQuiet_nil ?_
        intro X2 hk2
        have HX2 := Lib.hid (HKW.out.trans hk2)
        clear hk2 t1 hc
        go_wp2
        go_roundw
        case rel => exact ⟨h + 1, j, by omega, htj, by omega, hjN, by go_num, rfl, by omega, HX2.out⟩
        case measure => simp [intOf]; omega
      · have hht : t ≤ h := by have := HC.out.1; omega
        have t1 : decide (cmpP x p < 0) = false := by simpa using hc
        refine wpQuiet_yield (.bool false) (by rfl) (fun Z hZ => ?_) ?_
        · go_simp
        simp only [Act.put, List.setIfInBounds_toArray, List.set_cons_zero, List.set_cons_succ]
        refine wpQuiet_nil ?_
        intro X2 hk2
        have HX2 := Lib.hid (HKW.out.trans hk2)
        clear hk2 t1 hc
        go_wp2
        go_roundw
        case rel => exact ⟨i, h, hit, hht, by omega, by omega, rfl, rfl, by omega, HX2.out⟩
        case measure => simp [intOf]; omega
    · obtain rfl : i = t := by omega
      obtain rfl : i = j := by omega
      have hhl : i < l.length := by rw [HN.out]; exact ht
      have HC := Lib.hid ((HCM.out i hhl).2 rfl)
      obtain ⟨b2, off2, eB, c0, c1⟩ := (HP.out.kept (HK0.out.trans HKW.out)) i hhl
      cases eB
      generalize l[i] = x at c0 c1 HC
      have HC0 := Lib.hid c0
      have HC1 := Lib.hid c1
      clear c0 c1
      go_wp2
      have t1 : decide ((i : Int) < (N : Int)) = true := by simpa using ht
      refine wp_region_quiet (C := fun Z => Kept wr Z) (by kernel_rfl) (by kernel_rfl) (Kept.refl _).drew ?_
      simp only []
      refine wpQuiet_yield (.int .i64 i) (by rfl) (fun Z hZ => ?_) ?_
      · go_simp
      simp only [Act.put, List.setIfInBounds_toArray, List.set_cons_zero, List.set_cons_succ]
      refine wpQuiet_yield (.int .i64 i) (by rfl) (fun Z hZ => ?_) ?_
      · go_simp
      simp only [Act.put, List.setIfInBounds_toArray, List.set_cons_zero, List.set_cons_succ]
      refine wpQuiet_yield (.int .i64 N) (by rfl) (fun Z hZ => ?_) ?_
      · go_simp
      simp only [Act.put, List.setIfInBounds_toArray, List.set_cons_zero, List.set_cons_succ]
      refine wpQuiet_yield (.bool true) (by rfl) (fun Z hZ => ?_) ?_
      · go_simp
      simp only [Act.put, List.setIfInBounds_toArray, List.set_cons_zero, List.set_cons_succ]
      refine wpQuiet_yield (.bool true) (by rfl) (fun Z hZ => ?_) ?_
      · go_simp
      simp only [Act.put, List.setIfInBounds_toArray, List.set_cons_zero, List.set_cons_succ]
      refine wpQuiet_yield (.func (.func 39) #[] #[]) (by rfl) (fun Z hZ => ?_) ?_
      · go_simp
      simp only [Act.put, List.setIfInBounds_toArray, List.set_cons_zero, List.set_cons_succ]
      refine wpQuiet_yield (.slice (some ⟨b, off, none⟩) N c) (by rfl) (fun Z hZ => ?_) ?_
      · go_simp
      simp only [Act.put, List.setIfInBounds_toArray, List.set_cons_zero, List.set_cons_succ]
      refine wpQuiet_yield (.int .i64 i) (by rfl) (fun Z hZ => ?_) ?_
      · go_simp
      simp only [Act.put, List.setIfInBounds_toArray, List.set_cons_zero, List.set_cons_succ]
      refine wpQuiet_yield (.pointer (some ⟨b, off + i * 2, none⟩)) (by rfl) (fun Z hZ => ?_) ?_
      · go_simp
      simp only [Act.put, List.setIfInBounds_toArray, List.set_cons_zero, List.set_cons_succ]
      refine wpQuiet_yield (ptV x) (by rfl) (fun Z hZ => ?_) ?_
      · have r0 := hZ.cell HC0.out
        have r1 := hZ.cell HC1.out
        have rb := lt_of_cell r0
        go_simp
      simp only [Act.put, List.setIfInBounds_toArray, List.set_cons_zero, List.set_cons_succ]
      refine wpQuiet_yield (ptV p) (by rfl) (fun Z hZ => ?_) ?_
      · obtain ⟨r0, r1⟩ := (HB0.out.kept HKW.out).kept hZ
        have rb := lt_of_cell r0
        go_simp
      simp only [Act.put, List.setIfInBounds_toArray, List.set_cons_zero, List.set_cons_succ]
      refine wpQuiet_yield (.int .i64 0) (by rfl) (fun Z hZ => ?_) ?_
      · go_simp
        have h3 := comparePoints_any x p Z
        rw [HC.out] at h3
        exact h3.mono fun e Z' h => ⟨h.1, hZ.trans h.2⟩
      simp only [Act.put, List.setIfInBounds_toArray, List.set_cons_zero, List.set_cons_succ]
      refine wpQuiet_yield (.bool true) (by rfl) (fun Z hZ => ?_) ?_
      · go_simp
      simp only [Act.put, List.setIfInBounds_toArray, List.set_cons_zero, List.set_cons_succ]
      refine wpQuiet_yield (.bool true) (by rfl) (fun Z hZ => ?_) ?_
      · go_simp
      simp only [Act.put, List.setIfInBounds_toArray, List.set_cons_zero, List.set_cons_succ]
      refine wpQuiet_yield (.int .i64 i) (by rfl) (fun Z hZ => ?_) ?_
      · go_simp
      simp only [Act.put, List.setIfInBounds_toArray, List.set_cons_zero, List.set_cons_succ]
      refine wpQuiet_yield (.bool true) (by rfl) (fun Z hZ => ?_) ?_
      · go_simp
      simp only [Act.put, List.setIfInBounds_toArray, List.set_cons_zero, List.set_cons_succ]
      refine wpQuiet_nil ?_
      intro X2 hk2
      have HX2 := Lib.hid (HK0.out.trans (HKW.out.trans hk2))
      clear hk2 t1
      go_wp2
      refine bodyPost_ret (results_tmp2 rfl _ _ _) rfl ?_
      exact ⟨rfl, HX2.out⟩
end Go.Proofs.YtlglfcdobbocnaaGreat
