/- OrderCircles. -/
import Derived.Test.YteljjkghjbofnaaVe
set_option maxRecDepth 100000
namespace Go.Proofs.Yteljjkghjbofnaa
open Go Go.Proofs Go.RowKit
attribute [local go_sem] Oper.semAt_some

set_option maxHeartbeats 4000000 in
theorem OrderCircles_any (o : Prob) (ao bo : Option Addr) (ca cb : Nat) (l : List Int) (lo : Option Addr) (c : Nat) (w : World) (hA : Pairs w ao o.arcs) (hB : Pairs w bo o.near) (hl : Ints w lo l) (hlc : l.length ≤ c) :
    Calls Try.prog 6 #[probV o ao ca bo cb, .slice lo l.length c] w (Gives (.bool true) w) := by
  have HO : Hid (slimB o = true → IsProb w o ao bo) := Lib.hid fun h => by
    unfold slimB at h
    simp at h
    exact ⟨hA, hB, by omega, by omega⟩
  have HL := Lib.hid hl
  clear hA hB hl
  go_enter Try.func6, Try.ntmps6
  go_wp2_with fail
  obtain ⟨w0, e0, hk0, hb0, -⟩ := alloc_prob w o.N o.arcs o.near ao ca bo cb
  rw [e0]
  clear e0
  have HK0 := Lib.hid hk0
  have HB0 := Lib.hid hb0
  clear hk0
  obtain ⟨q0, q1, q2⟩ := hb0
  have qb := lt_of_cell q0
  go_wp2_with fail
  clear q0 q1 q2 qb
  refine (slim_any o ao bo ca cb w0).mono ?_
  rintro e w1 ⟨rfl, hk⟩
  have HK1 := Lib.hid (HK0.out.trans hk)
  have HB1 := Lib.hid (HB0.out.kept hk)
  clear hk HK0 HB0
  cases hs : slimB o
  · clear hs
    go_wp2_with fail
    refine (alive_any w1).mono ?_
    rintro e w1z ⟨rfl, hk⟩
    have HKZ := Lib.hid (HK1.out.trans hk)
    clear hk
    go_wp2
    go_ret
    exact ⟨rfl, HKZ.out⟩
  · have HOK := Lib.hid (HO.out hs)
    clear hs
    by_cases h6 : 8 < o.N
    · have e6 : decide (o.N > 8) = true := decide_eq_true h6
      by_cases h8 : o.N ≤ 24
      · have e8 : decide (o.N ≤ 24) = true := decide_eq_true h8
        clear h6 h8
        obtain ⟨q0, q1, q2⟩ := HB1.out
        have qb := lt_of_cell q0
        go_wp2_with fail
        refine (alive_any w1).mono ?_
        rintro e w1z ⟨rfl, hk⟩
        have HKZ := Lib.hid (HK1.out.trans hk)
        clear hk
        go_wp2
        go_ret
        exact ⟨rfl, HKZ.out⟩
      · have e8 : decide (o.N ≤ 24) = false := decide_eq_false h8
        clear h6 h8
        by_cases hll : l.length ≤ 30
        · have e7 : decide ((l.length : Int) > 30) = false := decide_eq_false (by omega)
          have B1 : Hid (Bag w w1 w.heap.size o ao ca bo cb lo l) := Lib.hid ⟨HOK.out.kept HK1.out, HB1.out, HL.out.kept HK1.out, HK1.out⟩
          have HCLN := Lib.hid (circleL_len o)
          clear HO HOK HK1 HB1 HL
          obtain ⟨C, hC⟩ : ∃ C, circleL o = C := ⟨_, rfl⟩
          obtain ⟨K, hKK⟩ : ∃ K, CheckCircleR o l = K := ⟨_, rfl⟩
          obtain ⟨E, hE⟩ : ∃ E, (!C.isEmpty) = E := ⟨_, rfl⟩
          rw [hC] at HCLN
          have HC := Lib.hid hC
          have HKK := Lib.hid hKK
          have HE := Lib.hid hE
          clear hC hKK hE
          obtain ⟨q0, q1, q2⟩ := B1.out.b
          have qb := lt_of_cell q0
          go_wp2_with fail
          clear q0 q1 q2 qb
          have hF := Circle_any o ao bo ca cb  w1 B1.out.p
          rw [HC.out] at hF
          unfold CirclePost at hF
          rw [HE.out] at hF
          refine hF.mono ?_
          clear hF
          rintro e w2 ⟨_, rfl, ⟨⟨ta, tc, rfl, -, hi, -⟩, -⟩, hk⟩
          have B2 := Lib.hid (B1.out.kept hk)
          have HI2 := Lib.hid hi
          clear hi
          clear hk B1
          obtain ⟨q0, q1, q2⟩ := B2.out.b
          have qb := lt_of_cell q0
          go_wp2_with fail
          clear q0 q1 q2 qb
          have hF := RCircle_any o ao bo ca cb  w2 B2.out.p
          rw [HC.out] at hF
          unfold RCircP at hF
          rw [HE.out] at hF
          refine hF.mono ?_
          clear hF
          rintro e w3 ⟨sa, sc, rfl, hj, hk⟩
          have B3 := Lib.hid (B2.out.kept hk)
          have HI3 := Lib.hid (HI2.out.kept hk)
          have HJ3 := Lib.hid hj
          clear hj HI2
          clear hk B2
          have ee : (E == E) = true := by simp
          have ek : (K == K) = true := by simp
          go_wp2
          refine region_class (fun Z => Kept w3 Z) 20 (by kernel_rfl) (by kernel_rfl) (Kept.refl _).drew ?_
          simp only [List.take_succ_cons, List.take_zero, List.drop_succ_cons, List.drop_zero]
          refine wpQuiet_yield (.bool true) (by rfl) (fun Z hZ => ?_) ?_
          · go_simp
            exact (alive_any Z).mono fun e Z' h => ⟨h.1, hZ.trans h.2⟩
          simp only [Act.put, List.setIfInBounds_toArray, List.set_cons_zero, List.set_cons_succ]
          refine wpQuiet_yield (.bool true) (by rfl) (fun Z hZ => ?_) ?_
          · go_simp
          simp only [Act.put, List.setIfInBounds_toArray, List.set_cons_zero, List.set_cons_succ]
          refine wpQuiet_yield (.bool E) (by rfl) (fun Z hZ => ?_) ?_
          · go_simp
          simp only [Act.put, List.setIfInBounds_toArray, List.set_cons_zero, List.set_cons_succ]
          refine wpQuiet_yield (.bool E) (by rfl) (fun Z hZ => ?_) ?_
          · go_simp
          simp only [Act.put, List.setIfInBounds_toArray, List.set_cons_zero, List.set_cons_succ]
          refine wpQuiet_yield (.bool true) (by rfl) (fun Z hZ => ?_) ?_
          · go_simp
          simp only [Act.put, List.setIfInBounds_toArray, List.set_cons_zero, List.set_cons_succ]
          refine wpQuiet_yield (.bool true) (by rfl) (fun Z hZ => ?_) ?_
          · go_simp
          simp only [Act.put, List.setIfInBounds_toArray, List.set_cons_zero, List.set_cons_succ]
          refine wpQuiet_yield (.bool true) (by rfl) (fun Z hZ => ?_) ?_
          · go_simp
          simp only [Act.put, List.setIfInBounds_toArray, List.set_cons_zero, List.set_cons_succ]
          refine wpQuiet_yield (.slice ta C.length tc) (by rfl) (fun Z hZ => ?_) ?_
          · go_simp
          simp only [Act.put, List.setIfInBounds_toArray, List.set_cons_zero, List.set_cons_succ]
          refine wpQuiet_yield (.slice sa C.length sc) (by rfl) (fun Z hZ => ?_) ?_
          · go_simp
          simp only [Act.put, List.setIfInBounds_toArray, List.set_cons_zero, List.set_cons_succ]
          refine wpQuiet_yield (.bool true) (by rfl) (fun Z hZ => ?_) ?_
          · go_simp
            exact (same_any C ta sa tc sc _ Z (HI3.out.kept hZ) (HJ3.out.kept hZ) rfl (by have h : C.length ≤ 24 := HCLN.out; omega)).mono fun e Z' h => ⟨h.1, hZ.trans h.2⟩
          simp only [Act.put, List.setIfInBounds_toArray, List.set_cons_zero, List.set_cons_succ]
          refine wpQuiet_yield (.bool true) (by rfl) (fun Z hZ => ?_) ?_
          · go_simp
          simp only [Act.put, List.setIfInBounds_toArray, List.set_cons_zero, List.set_cons_succ]
          refine wpQuiet_yield (.bool true) (by rfl) (fun Z hZ => ?_) ?_
          · go_simp
          simp only [Act.put, List.setIfInBounds_toArray, List.set_cons_zero, List.set_cons_succ]
          refine wpQuiet_yield (.agg #[.int .i64 o.N, .slice ao o.arcs.length ca, .slice bo o.near.length cb]) (by rfl) (fun Z hZ => ?_) ?_
          · obtain ⟨q0, q1, q2⟩ := (B3.out.kept hZ).b
            have qb := lt_of_cell q0
            go_simp
          simp only [Act.put, List.setIfInBounds_toArray, List.set_cons_zero, List.set_cons_succ]
          refine wpQuiet_yield (.slice lo l.length c) (by rfl) (fun Z hZ => ?_) ?_
          · go_simp
          simp only [Act.put, List.setIfInBounds_toArray, List.set_cons_zero, List.set_cons_succ]
          refine wpQuiet_yield (.bool K) (by rfl) (fun Z hZ => ?_) ?_
          · go_simp
            have hF := CheckCircle_any o ao bo ca cb l lo c Z (B3.out.kept hZ).p (B3.out.kept hZ).l (by omega)
            rw [HKK.out] at hF
            exact hF.mono fun e Z' h => ⟨h.1, hZ.trans h.2⟩
          simp only [Act.put, List.setIfInBounds_toArray, List.set_cons_zero, List.set_cons_succ]
          refine wpQuiet_yield (.agg #[.int .i64 o.N, .slice ao o.arcs.length ca, .slice bo o.near.length cb]) (by rfl) (fun Z hZ => ?_) ?_
          · obtain ⟨q0, q1, q2⟩ := (B3.out.kept hZ).b
            have qb := lt_of_cell q0
            go_simp
          simp only [Act.put, List.setIfInBounds_toArray, List.set_cons_zero, List.set_cons_succ]
          refine wpQuiet_yield (.slice lo l.length c) (by rfl) (fun Z hZ => ?_) ?_
          · go_simp
          simp only [Act.put, List.setIfInBounds_toArray, List.set_cons_zero, List.set_cons_succ]
          refine wpQuiet_yield (.bool K) (by rfl) (fun Z hZ => ?_) ?_
          · go_simp
            have hF := RCheckCircle_any o ao bo ca cb l lo c Z (B3.out.kept hZ).p (B3.out.kept hZ).l (by omega) hlc
            rw [HKK.out] at hF
            exact hF.mono fun e Z' h => ⟨h.1, hZ.trans h.2⟩
          simp only [Act.put, List.setIfInBounds_toArray, List.set_cons_zero, List.set_cons_succ]
          refine wpQuiet_yield (.bool true) (by rfl) (fun Z hZ => ?_) ?_
          · go_simp
          simp only [Act.put, List.setIfInBounds_toArray, List.set_cons_zero, List.set_cons_succ]
          refine wpQuiet_yield (.bool true) (by rfl) (fun Z hZ => ?_) ?_
          · go_simp
          simp only [Act.put, List.setIfInBounds_toArray, List.set_cons_zero, List.set_cons_succ]
          refine wpQuiet_nil ?_
          intro w4 hk4
          have B4 := Lib.hid (B3.out.kept hk4)
          clear hk4
          go_wp2
          go_ret
          exact ⟨rfl, B4.out.k⟩
        · have e7 : decide ((l.length : Int) > 30) = true := decide_eq_true (by omega)
          clear hll
          obtain ⟨q0, q1, q2⟩ := HB1.out
          have qb := lt_of_cell q0
          go_wp2_with fail
          refine (alive_any w1).mono ?_
          rintro e w1z ⟨rfl, hk⟩
          have HKZ := Lib.hid (HK1.out.trans hk)
          clear hk
          go_wp2
          go_ret
          exact ⟨rfl, HKZ.out⟩
    · have e6 : decide (o.N > 8) = false := decide_eq_false h6
      clear h6
      by_cases hll : l.length ≤ 30
      · have e7 : decide ((l.length : Int) > 30) = false := decide_eq_false (by omega)
        have B1 : Hid (Bag w w1 w.heap.size o ao ca bo cb lo l) := Lib.hid ⟨HOK.out.kept HK1.out, HB1.out, HL.out.kept HK1.out, HK1.out⟩
        have HCLN := Lib.hid (circleL_len o)
        clear HO HOK HK1 HB1 HL
        obtain ⟨C, hC⟩ : ∃ C, circleL o = C := ⟨_, rfl⟩
        obtain ⟨K, hKK⟩ : ∃ K, CheckCircleR o l = K := ⟨_, rfl⟩
        obtain ⟨E, hE⟩ : ∃ E, (!C.isEmpty) = E := ⟨_, rfl⟩
        rw [hC] at HCLN
        have HC := Lib.hid hC
        have HKK := Lib.hid hKK
        have HE := Lib.hid hE
        clear hC hKK hE
        obtain ⟨q0, q1, q2⟩ := B1.out.b
        have qb := lt_of_cell q0
        go_wp2_with fail
        clear q0 q1 q2 qb
        have hF := Circle_any o ao bo ca cb  w1 B1.out.p
        rw [HC.out] at hF
        unfold CirclePost at hF
        rw [HE.out] at hF
        refine hF.mono ?_
        clear hF
        rintro e w2 ⟨_, rfl, ⟨⟨ta, tc, rfl, -, hi, -⟩, -⟩, hk⟩
        have B2 := Lib.hid (B1.out.kept hk)
        have HI2 := Lib.hid hi
        clear hi
        clear hk B1
        obtain ⟨q0, q1, q2⟩ := B2.out.b
        have qb := lt_of_cell q0
        go_wp2_with fail
        clear q0 q1 q2 qb
        have hF := RCircle_any o ao bo ca cb  w2 B2.out.p
        rw [HC.out] at hF
        unfold RCircP at hF
        rw [HE.out] at hF
        refine hF.mono ?_
        clear hF
        rintro e w3 ⟨sa, sc, rfl, hj, hk⟩
        have B3 := Lib.hid (B2.out.kept hk)
        have HI3 := Lib.hid (HI2.out.kept hk)
        have HJ3 := Lib.hid hj
        clear hj HI2
        clear hk B2
        have ee : (E == E) = true := by simp
        have ek : (K == K) = true := by simp
        go_wp2
        refine region_class (fun Z => Kept w3 Z) 20 (by kernel_rfl) (by kernel_rfl) (Kept.refl _).drew ?_
        simp only [List.take_succ_cons, List.take_zero, List.drop_succ_cons, List.drop_zero]
        refine wpQuiet_yield (.bool true) (by rfl) (fun Z hZ => ?_) ?_
        · go_simp
          exact (alive_any Z).mono fun e Z' h => ⟨h.1, hZ.trans h.2⟩
        simp only [Act.put, List.setIfInBounds_toArray, List.set_cons_zero, List.set_cons_succ]
        refine wpQuiet_yield (.bool true) (by rfl) (fun Z hZ => ?_) ?_
        · go_simp
        simp only [Act.put, List.setIfInBounds_toArray, List.set_cons_zero, List.set_cons_succ]
        refine wpQuiet_yield (.bool E) (by rfl) (fun Z hZ => ?_) ?_
        · go_simp
        simp only [Act.put, List.setIfInBounds_toArray, List.set_cons_zero, List.set_cons_succ]
        refine wpQuiet_yield (.bool E) (by rfl) (fun Z hZ => ?_) ?_
        · go_simp
        simp only [Act.put, List.setIfInBounds_toArray, List.set_cons_zero, List.set_cons_succ]
        refine wpQuiet_yield (.bool true) (by rfl) (fun Z hZ => ?_) ?_
        · go_simp
        simp only [Act.put, List.setIfInBounds_toArray, List.set_cons_zero, List.set_cons_succ]
        refine wpQuiet_yield (.bool true) (by rfl) (fun Z hZ => ?_) ?_
        · go_simp
        simp only [Act.put, List.setIfInBounds_toArray, List.set_cons_zero, List.set_cons_succ]
        refine wpQuiet_yield (.bool true) (by rfl) (fun Z hZ => ?_) ?_
        · go_simp
        simp only [Act.put, List.setIfInBounds_toArray, List.set_cons_zero, List.set_cons_succ]
        refine wpQuiet_yield (.slice ta C.length tc) (by rfl) (fun Z hZ => ?_) ?_
        · go_simp
        simp only [Act.put, List.setIfInBounds_toArray, List.set_cons_zero, List.set_cons_succ]
        refine wpQuiet_yield (.slice sa C.length sc) (by rfl) (fun Z hZ => ?_) ?_
        · go_simp
        simp only [Act.put, List.setIfInBounds_toArray, List.set_cons_zero, List.set_cons_succ]
        refine wpQuiet_yield (.bool true) (by rfl) (fun Z hZ => ?_) ?_
        · go_simp
          exact (same_any C ta sa tc sc _ Z (HI3.out.kept hZ) (HJ3.out.kept hZ) rfl (by have h : C.length ≤ 24 := HCLN.out; omega)).mono fun e Z' h => ⟨h.1, hZ.trans h.2⟩
        simp only [Act.put, List.setIfInBounds_toArray, List.set_cons_zero, List.set_cons_succ]
        refine wpQuiet_yield (.bool true) (by rfl) (fun Z hZ => ?_) ?_
        · go_simp
        simp only [Act.put, List.setIfInBounds_toArray, List.set_cons_zero, List.set_cons_succ]
        refine wpQuiet_yield (.bool true) (by rfl) (fun Z hZ => ?_) ?_
        · go_simp
        simp only [Act.put, List.setIfInBounds_toArray, List.set_cons_zero, List.set_cons_succ]
        refine wpQuiet_yield (.agg #[.int .i64 o.N, .slice ao o.arcs.length ca, .slice bo o.near.length cb]) (by rfl) (fun Z hZ => ?_) ?_
        · obtain ⟨q0, q1, q2⟩ := (B3.out.kept hZ).b
          have qb := lt_of_cell q0
          go_simp
        simp only [Act.put, List.setIfInBounds_toArray, List.set_cons_zero, List.set_cons_succ]
        refine wpQuiet_yield (.slice lo l.length c) (by rfl) (fun Z hZ => ?_) ?_
        · go_simp
        simp only [Act.put, List.setIfInBounds_toArray, List.set_cons_zero, List.set_cons_succ]
        refine wpQuiet_yield (.bool K) (by rfl) (fun Z hZ => ?_) ?_
        · go_simp
          have hF := CheckCircle_any o ao bo ca cb l lo c Z (B3.out.kept hZ).p (B3.out.kept hZ).l (by omega)
          rw [HKK.out] at hF
          exact hF.mono fun e Z' h => ⟨h.1, hZ.trans h.2⟩
        simp only [Act.put, List.setIfInBounds_toArray, List.set_cons_zero, List.set_cons_succ]
        refine wpQuiet_yield (.agg #[.int .i64 o.N, .slice ao o.arcs.length ca, .slice bo o.near.length cb]) (by rfl) (fun Z hZ => ?_) ?_
        · obtain ⟨q0, q1, q2⟩ := (B3.out.kept hZ).b
          have qb := lt_of_cell q0
          go_simp
        simp only [Act.put, List.setIfInBounds_toArray, List.set_cons_zero, List.set_cons_succ]
        refine wpQuiet_yield (.slice lo l.length c) (by rfl) (fun Z hZ => ?_) ?_
        · go_simp
        simp only [Act.put, List.setIfInBounds_toArray, List.set_cons_zero, List.set_cons_succ]
        refine wpQuiet_yield (.bool K) (by rfl) (fun Z hZ => ?_) ?_
        · go_simp
          have hF := RCheckCircle_any o ao bo ca cb l lo c Z (B3.out.kept hZ).p (B3.out.kept hZ).l (by omega) hlc
          rw [HKK.out] at hF
          exact hF.mono fun e Z' h => ⟨h.1, hZ.trans h.2⟩
        simp only [Act.put, List.setIfInBounds_toArray, List.set_cons_zero, List.set_cons_succ]
        refine wpQuiet_yield (.bool true) (by rfl) (fun Z hZ => ?_) ?_
        · go_simp
        simp only [Act.put, List.setIfInBounds_toArray, List.set_cons_zero, List.set_cons_succ]
        refine wpQuiet_yield (.bool true) (by rfl) (fun Z hZ => ?_) ?_
        · go_simp
        simp only [Act.put, List.setIfInBounds_toArray, List.set_cons_zero, List.set_cons_succ]
        refine wpQuiet_nil ?_
        intro w4 hk4
        have B4 := Lib.hid (B3.out.kept hk4)
        clear hk4
        go_wp2
        go_ret
        exact ⟨rfl, B4.out.k⟩
      · have e7 : decide ((l.length : Int) > 30) = true := decide_eq_true (by omega)
        clear hll
        obtain ⟨q0, q1, q2⟩ := HB1.out
        have qb := lt_of_cell q0
        go_wp2_with fail
        refine (alive_any w1).mono ?_
        rintro e w1z ⟨rfl, hk⟩
        have HKZ := Lib.hid (HK1.out.trans hk)
        clear hk
        go_wp2
        go_ret
        exact ⟨rfl, HKZ.out⟩
end Go.Proofs.Yteljjkghjbofnaa

