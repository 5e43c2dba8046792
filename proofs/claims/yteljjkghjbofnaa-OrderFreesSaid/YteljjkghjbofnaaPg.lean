/- OrderFrees. -/
import Derived.Test.YteljjkghjbofnaaPf
import Derived.Test.YteljjkghjbofnaaPc
set_option maxRecDepth 100000
namespace Go.Proofs.Yteljjkghjbofnaa
open Go Go.Proofs Go.RowKit
attribute [local go_sem] Oper.semAt_some

theorem freeR_len (o : Prob) : (FreeR o).1.length ≤ 24 := by
  unfold FreeR
  split
  · rename_i h
    have h1 := (freeStep_facts (webOf o) (webOf o).n (Nat.le_refl _)).1
    have h2 := webOf_n (errS_ok h).1
    show (freePt (webOf o) (webOf o).n).1.length ≤ 24
    omega
  · simp
structure BagF (w X : World) (g0 : Nat) (o : Prob) (ao : Option Addr) (ca : Nat) (bo : Option Addr) (cb : Nat) (lo : Option Addr) (l : List Int) (co : Option Addr) (chs : List (List Int)) : Prop where
  p : IsProb X o ao bo
  b : ProbBox X g0 o ao ca bo cb
  l : Ints X lo l
  c : Chs X co chs
  k : Kept w X
theorem BagF.kept {w X Y : World} {g0 : Nat} {o : Prob} {ao : Option Addr} {ca : Nat} {bo : Option Addr} {cb : Nat} {lo : Option Addr} {l : List Int} {co : Option Addr} {chs : List (List Int)} (h : BagF w X g0 o ao ca bo cb lo l co chs) (hk : Kept X Y) : BagF w Y g0 o ao ca bo cb lo l co chs :=
  ⟨h.p.kept hk, h.b.kept hk, h.l.kept hk, h.c.kept hk, h.k.trans hk⟩
theorem slim_probF {w : World} {o : Prob} {ao bo : Option Addr} (hA : Pairs w ao o.arcs) (hB : Pairs w bo o.near) (h : slimB o = true) : IsProb w o ao bo := by
  unfold slimB at h
  simp at h
  exact ⟨hA, hB, by omega, by omega⟩
/-- A truth that P has. -/
noncomputable def tru (P : Prop) : Bool := @decide P (Classical.propDecidable P)
theorem SaysB.gives {P : Prop} {w w' : World} {e : Ending} (h : SaysB P w e w') : e = .returned (.bool (tru P)) ∧ Kept w w' := by
  obtain ⟨b, rfl, hb, hk⟩ := h
  refine ⟨?_, hk⟩
  have : tru P = b := by
    unfold tru
    cases b
    · exact @decide_eq_false P (Classical.propDecidable P) (fun p => by have := hb.2 p; cases this)
    · exact @decide_eq_true P (Classical.propDecidable P) (hb.1 rfl)
  rw [this]

set_option maxHeartbeats 4000000 in
theorem OrderFrees_any (o : Prob) (ao bo : Option Addr) (ca cb : Nat) (l : List Int) (lo : Option Addr) (lc : Nat) (chs : List (List Int)) (co : Option Addr) (cc : Nat) (w : World) (hA : Pairs w ao o.arcs) (hB : Pairs w bo o.near) (hl : Ints w lo l) (hlc : l.length ≤ lc) (hch : Chs w co chs) :
    Calls Try.prog 16 #[probV o ao ca bo cb, .slice lo l.length lc, .slice co chs.length cc] w (Gives (.bool true) w) := by
  have HO : Hid (slimB o = true → IsProb w o ao bo) := Lib.hid (slim_probF hA hB)
  have HL := Lib.hid hl
  have HLC := Lib.hid hlc
  have HCH := Lib.hid hch
  clear hA hB hl hlc hch
  go_enter Try.func16, Try.ntmps16
  go_wp2_with fail
  obtain ⟨w0, e0, hk0, hb0, -⟩ := alloc_prob w o.N o.arcs o.near ao ca bo cb
  rw [e0]
  clear e0
  have HK0 := Lib.hid hk0
  have HB0 := Lib.hid hb0
  clear hk0
  obtain ⟨q0, q1, q2⟩ := hb0
  have qb := lt_of_cell q0
  go_wp2_with fail
  clear q0 q1 q2 qb
  refine (slim_any o ao bo ca cb w0).mono ?_
  rintro e w1 ⟨rfl, hk⟩
  have HK1 := Lib.hid (HK0.out.trans hk)
  have HB1 := Lib.hid (HB0.out.kept hk)
  clear hk HK0 HB0
  cases hs : slimB o
  case false =>
    clear hs
    go_wp2_with fail
    refine (alive_any w1).mono ?_
    rintro e wz ⟨rfl, hk⟩
    have HKZ := Lib.hid (HK1.out.trans hk)
    clear hk
    go_wp2
    go_ret
    exact ⟨rfl, HKZ.out⟩
  have HOK := Lib.hid (HO.out hs)
  clear hs HO
  obtain ⟨q0, q1, q2⟩ := HB1.out
  have qb := lt_of_cell q0
  by_cases h9 : o.N > 9 ∧ o.N ≤ 24
  case pos =>
    have e6 : decide (o.N > 9) = true := decide_eq_true h9.1
    have e8 : decide (o.N ≤ 24) = true := decide_eq_true h9.2
    clear h9
    go_wp2_with fail
    refine (alive_any w1).mono ?_
    rintro e wz ⟨rfl, hk⟩
    have HKZ := Lib.hid (HK1.out.trans hk)
    clear hk
    go_wp2
    go_ret
    exact ⟨rfl, HKZ.out⟩
  have HSM : Hid (o.N ≤ 9 ∨ 24 < o.N) := Lib.hid (by omega)
  have hnn : ∃ b6 b8, decide (o.N > 9) = b6 ∧ decide (o.N ≤ 24) = b8 ∧ (b6 && b8) = false := by
    refine ⟨_, _, rfl, rfl, ?_⟩
    cases h : (decide (o.N > 9) && decide (o.N ≤ 24))
    · rfl
    · simp at h; exact absurd h h9
  clear h9
  by_cases h30 : 30 < l.length
  case pos =>
    have e7 : decide ((l.length : Int) > 30) = true := decide_eq_true (by omega)
    clear h30
    obtain ⟨b6, b8, e6, e8, e9⟩ := hnn
    cases b6
    · clear e9
      go_wp2_with fail
      refine (alive_any w1).mono ?_
      rintro e wz ⟨rfl, hk⟩
      have HKZ := Lib.hid (HK1.out.trans hk)
      clear hk
      go_wp2
      go_ret
      exact ⟨rfl, HKZ.out⟩
    · obtain rfl : b8 = false := by simpa using e9
      clear e9
      go_wp2_with fail
      refine (alive_any w1).mono ?_
      rintro e wz ⟨rfl, hk⟩
      have HKZ := Lib.hid (HK1.out.trans hk)
      clear hk
      go_wp2
      go_ret
      exact ⟨rfl, HKZ.out⟩
  have e7 : decide ((l.length : Int) > 30) = false := decide_eq_false (by omega)
  have H30 : Hid (l.length ≤ 30) := Lib.hid (by omega)
  by_cases h31 : 30 < chs.length
  case pos =>
    have e5 : decide ((chs.length : Int) > 30) = true := decide_eq_true (by omega)
    clear h30 h31
    obtain ⟨b6, b8, e6, e8, e9⟩ := hnn
    cases b6
    · clear e9
      go_wp2_with fail
      refine (alive_any w1).mono ?_
      rintro e wz ⟨rfl, hk⟩
      have HKZ := Lib.hid (HK1.out.trans hk)
      clear hk
      go_wp2
      go_ret
      exact ⟨rfl, HKZ.out⟩
    · obtain rfl : b8 = false := by simpa using e9
      clear e9
      go_wp2_with fail
      refine (alive_any w1).mono ?_
      rintro e wz ⟨rfl, hk⟩
      have HKZ := Lib.hid (HK1.out.trans hk)
      clear hk
      go_wp2
      go_ret
      exact ⟨rfl, HKZ.out⟩
  have e5 : decide ((chs.length : Int) > 30) = false := decide_eq_false (by omega)
  have H31 : Hid (chs.length ≤ 30) := Lib.hid (by omega)
  have B1 : Hid (BagF w w1 w.heap.size o ao ca bo cb lo l co chs) := Lib.hid ⟨HOK.out.kept HK1.out, HB1.out, HL.out.kept HK1.out, HCH.out.kept HK1.out, HK1.out⟩
  clear h30 h31 HOK HK1 HB1 HL HCH
  clear hnn
  obtain ⟨F, hF⟩ : ∃ F, FreeR o = F := ⟨_, rfl⟩
  have HF := Lib.hid hF
  have HFL := Lib.hid (freeR_len o)
  rw [hF] at HFL
  clear hF
  obtain ⟨F, fe⟩ := F
  simp only [] at HFL
  obtain ⟨b6, hb6⟩ : ∃ b6, decide (o.N > 9) = b6 := ⟨_, rfl⟩
  cases b6
  case false =>
    go_wp2
    clear q0 q1 q2 qb e5 e7
    go_loop [39] (fun i => ∃ k : Nat, k ≤ chs.length ∧ i = .int .i64 k ∧ ∀ i, (h : i < chs.length) → i < k → chs[i].length ≤ 30) (fun i => chs.length - (intOf i).toNat)
    case atStart => exact ⟨0, Nat.zero_le _, rfl, fun _ _ h => by omega⟩
    case round =>
      obtain ⟨k, hk, rfl, hsm⟩ := hrel
      by_cases hlt : k < chs.length
      case pos =>
        obtain ⟨B, off, la, lc2, rfl, hc, -, -, -⟩ := B1.out.c k hlt
        have hcb := lt_of_cell hc
        have HGO : Hid (chs[k].length ≤ 30 → ∀ i, (h : i < chs.length) → i < k + 1 → chs[i].length ≤ 30) := Lib.hid fun h i hi hik => by
          rcases Nat.lt_or_eq_of_le (Nat.le_of_lt_succ hik) with h' | h'
          · exact hsm i hi h'
          · subst h'; exact h
        have HLT : Hid (0 < chs.length - k) := Lib.hid (by omega)
        have hk31 : k < 31 := by have := H31.out; omega
        clear hsm hk
        obtain ⟨m, hm⟩ : ∃ m, chs[k].length = m := ⟨_, rfl⟩
        rw [hm] at hc HGO
        clear hm
        by_cases h3 : 30 < m
        case pos =>
          have e1 : decide ((m : Int) > 30) = true := decide_eq_true (by omega)
          clear h3
          go_wp2_with fail
          refine (alive_any w1).mono ?_
          rintro e wz ⟨rfl, hk⟩
          have HKZ := Lib.hid (B1.out.k.trans hk)
          clear hk
          go_wp2
          go_ret
          exact ⟨rfl, HKZ.out⟩
        have e1 : decide ((m : Int) > 30) = false := decide_eq_false (by omega)
        have HG2 := Lib.hid (HGO.out (by omega))
        clear h3
        go_wp2
        go_round
        case measure => have := HLT.out; simp [intOf] <;> omega
        case rel => exact ⟨k + 1, by have := HLT.out; omega, by go_num, HG2.out⟩
      obtain rfl : k = chs.length := by omega
      have HCS : Hid (∀ c ∈ chs, c.length ≤ 30) := Lib.hid fun c hc => by
        obtain ⟨i, hi, rfl⟩ := List.getElem_of_mem hc
        exact hsm i hi hi
      clear hsm hk hlt
      obtain ⟨q0, q1, q2⟩ := B1.out.b
      have qb := lt_of_cell q0
      go_wp2_with fail
      clear q0 q1 q2 qb
      have hF := Free_any o ao bo ca cb w1 B1.out.p
      rw [HF.out] at hF
      simp only [] at hF
      refine hF.mono ?_
      clear hF
      rintro e w2 ⟨_, rfl, ⟨ta, tc, rfl, -, hi, -⟩, hk⟩
      have B2 := Lib.hid (B1.out.kept hk)
      have HI2 := Lib.hid hi
      clear hi hk B1
      obtain ⟨q0, q1, q2⟩ := B2.out.b
      have qb := lt_of_cell q0
      go_wp2_with fail
      clear q0 q1 q2 qb
      have hF := RFree_any o ao bo ca cb w2 B2.out.p HSM.out
      rw [HF.out] at hF
      simp only [] at hF
      refine hF.mono ?_
      clear hF
      rintro e w3 ⟨_, rfl, ⟨sa, sc, rfl, -, hj, -⟩, hk⟩
      have B3 := Lib.hid (B2.out.kept hk)
      have HI3 := Lib.hid (HI2.out.kept hk)
      have HJ3 := Lib.hid hj
      clear hj HI2 hk B2
      obtain ⟨K, hKK⟩ : ∃ K, tru (CFP o l chs) = K := ⟨_, rfl⟩
      have HKK := Lib.hid hKK
      clear hKK
      have ee : (fe == fe) = true := by simp
      have ek : (K == K) = true := by simp
      go_wp2
      refine region_class (fun Z => Kept w3 Z) 22 (by kernel_rfl) (by kernel_rfl) (Kept.refl _).drew ?_
      simp only [List.take_succ_cons, List.take_zero, List.drop_succ_cons, List.drop_zero]
      refine wpQuiet_yield (.bool true) (by rfl) (fun Z hZ => ?_) ?_
      · go_simp
        exact (alive_any Z).mono fun e Z' h => ⟨h.1, hZ.trans h.2⟩
      simp only [Act.put, List.setIfInBounds_toArray, List.set_cons_zero, List.set_cons_succ]
      refine wpQuiet_yield (.bool true) (by rfl) (fun Z hZ => ?_) ?_
      · go_simp
      simp only [Act.put, List.setIfInBounds_toArray, List.set_cons_zero, List.set_cons_succ]
      refine wpQuiet_yield (.int .i64 fe) (by rfl) (fun Z hZ => ?_) ?_
      · go_simp
      simp only [Act.put, List.setIfInBounds_toArray, List.set_cons_zero, List.set_cons_succ]
      refine wpQuiet_yield (.int .i64 fe) (by rfl) (fun Z hZ => ?_) ?_
      · go_simp
      simp only [Act.put, List.setIfInBounds_toArray, List.set_cons_zero, List.set_cons_succ]
      refine wpQuiet_yield (.bool true) (by rfl) (fun Z hZ => ?_) ?_
      · go_simp
      simp only [Act.put, List.setIfInBounds_toArray, List.set_cons_zero, List.set_cons_succ]
      refine wpQuiet_yield (.bool true) (by rfl) (fun Z hZ => ?_) ?_
      · go_simp
      simp only [Act.put, List.setIfInBounds_toArray, List.set_cons_zero, List.set_cons_succ]
      refine wpQuiet_yield (.bool true) (by rfl) (fun Z hZ => ?_) ?_
      · go_simp
      simp only [Act.put, List.setIfInBounds_toArray, List.set_cons_zero, List.set_cons_succ]
      refine wpQuiet_yield (.slice ta F.length tc) (by rfl) (fun Z hZ => ?_) ?_
      · go_simp
      simp only [Act.put, List.setIfInBounds_toArray, List.set_cons_zero, List.set_cons_succ]
      refine wpQuiet_yield (.slice sa F.length sc) (by rfl) (fun Z hZ => ?_) ?_
      · go_simp
      simp only [Act.put, List.setIfInBounds_toArray, List.set_cons_zero, List.set_cons_succ]
      refine wpQuiet_yield (.bool true) (by rfl) (fun Z hZ => ?_) ?_
      · go_simp
        exact (same_any F ta sa tc sc _ Z (HI3.out.kept hZ) (HJ3.out.kept hZ) rfl (by have h : F.length ≤ 24 := HFL.out; omega)).mono fun e Z' h => ⟨h.1, hZ.trans h.2⟩
      simp only [Act.put, List.setIfInBounds_toArray, List.set_cons_zero, List.set_cons_succ]
      refine wpQuiet_yield (.bool true) (by rfl) (fun Z hZ => ?_) ?_
      · go_simp
      simp only [Act.put, List.setIfInBounds_toArray, List.set_cons_zero, List.set_cons_succ]
      refine wpQuiet_yield (.bool true) (by rfl) (fun Z hZ => ?_) ?_
      · go_simp
      simp only [Act.put, List.setIfInBounds_toArray, List.set_cons_zero, List.set_cons_succ]
      refine wpQuiet_yield (.agg #[.int .i64 o.N, .slice ao o.arcs.length ca, .slice bo o.near.length cb]) (by rfl) (fun Z hZ => ?_) ?_
      · obtain ⟨q0, q1, q2⟩ := (B3.out.kept hZ).b
        have qb := lt_of_cell q0
        go_simp
      simp only [Act.put, List.setIfInBounds_toArray, List.set_cons_zero, List.set_cons_succ]
      refine wpQuiet_yield (.slice lo l.length lc) (by rfl) (fun Z hZ => ?_) ?_
      · go_simp
      simp only [Act.put, List.setIfInBounds_toArray, List.set_cons_zero, List.set_cons_succ]
      refine wpQuiet_yield (.slice co chs.length cc) (by rfl) (fun Z hZ => ?_) ?_
      · go_simp
      simp only [Act.put, List.setIfInBounds_toArray, List.set_cons_zero, List.set_cons_succ]
      refine wpQuiet_yield (.bool K) (by rfl) (fun Z hZ => ?_) ?_
      · go_simp
        have hF := CheckFree_any o ao bo ca cb l lo lc chs co cc Z (B3.out.kept hZ).p (B3.out.kept hZ).l HLC.out H30.out (B3.out.kept hZ).c H31.out HCS.out
        refine hF.mono fun e Z' h => ?_
        have h2 := h.gives
        rw [HKK.out] at h2
        exact ⟨h2.1, hZ.trans h2.2⟩
      simp only [Act.put, List.setIfInBounds_toArray, List.set_cons_zero, List.set_cons_succ]
      refine wpQuiet_yield (.agg #[.int .i64 o.N, .slice ao o.arcs.length ca, .slice bo o.near.length cb]) (by rfl) (fun Z hZ => ?_) ?_
      · obtain ⟨q0, q1, q2⟩ := (B3.out.kept hZ).b
        have qb := lt_of_cell q0
        go_simp
      simp only [Act.put, List.setIfInBounds_toArray, List.set_cons_zero, List.set_cons_succ]
      refine wpQuiet_yield (.slice lo l.length lc) (by rfl) (fun Z hZ => ?_) ?_
      · go_simp
      simp only [Act.put, List.setIfInBounds_toArray, List.set_cons_zero, List.set_cons_succ]
      refine wpQuiet_yield (.slice co chs.length cc) (by rfl) (fun Z hZ => ?_) ?_
      · go_simp
      simp only [Act.put, List.setIfInBounds_toArray, List.set_cons_zero, List.set_cons_succ]
      refine wpQuiet_yield (.bool K) (by rfl) (fun Z hZ => ?_) ?_
      · go_simp
        have hF := RCheckFree_any o ao bo ca cb l lo lc chs co cc Z (B3.out.kept hZ).p (B3.out.kept hZ).l H30.out (B3.out.kept hZ).c H31.out HCS.out
        refine hF.mono fun e Z' h => ?_
        have h2 := h.gives
        rw [HKK.out] at h2
        exact ⟨h2.1, hZ.trans h2.2⟩
      simp only [Act.put, List.setIfInBounds_toArray, List.set_cons_zero, List.set_cons_succ]
      refine wpQuiet_yield (.bool true) (by rfl) (fun Z hZ => ?_) ?_
      · go_simp
      simp only [Act.put, List.setIfInBounds_toArray, List.set_cons_zero, List.set_cons_succ]
      refine wpQuiet_yield (.bool true) (by rfl) (fun Z hZ => ?_) ?_
      · go_simp
      simp only [Act.put, List.setIfInBounds_toArray, List.set_cons_zero, List.set_cons_succ]
      refine wpQuiet_nil ?_
      intro w4 hk4
      have B4 := Lib.hid (B3.out.kept hk4)
      clear hk4
      go_wp2
      go_ret
      exact ⟨rfl, B4.out.k⟩
  have hb8 : decide (o.N ≤ 24) = false := decide_eq_false (by have h := HSM.out; have h2 := of_decide_eq_true hb6; omega)
  go_wp2
  clear q0 q1 q2 qb e5 e7
  go_loop [39] (fun i => ∃ k : Nat, k ≤ chs.length ∧ i = .int .i64 k ∧ ∀ i, (h : i < chs.length) → i < k → chs[i].length ≤ 30) (fun i => chs.length - (intOf i).toNat)
  case atStart => exact ⟨0, Nat.zero_le _, rfl, fun _ _ h => by omega⟩
  case round =>
    obtain ⟨k, hk, rfl, hsm⟩ := hrel
    by_cases hlt : k < chs.length
    case pos =>
      obtain ⟨B, off, la, lc2, rfl, hc, -, -, -⟩ := B1.out.c k hlt
      have hcb := lt_of_cell hc
      have HGO : Hid (chs[k].length ≤ 30 → ∀ i, (h : i < chs.length) → i < k + 1 → chs[i].length ≤ 30) := Lib.hid fun h i hi hik => by
        rcases Nat.lt_or_eq_of_le (Nat.le_of_lt_succ hik) with h' | h'
        · exact hsm i hi h'
        · subst h'; exact h
      have HLT : Hid (0 < chs.length - k) := Lib.hid (by omega)
      have hk31 : k < 31 := by have := H31.out; omega
      clear hsm hk
      obtain ⟨m, hm⟩ : ∃ m, chs[k].length = m := ⟨_, rfl⟩
      rw [hm] at hc HGO
      clear hm
      by_cases h3 : 30 < m
      case pos =>
        have e1 : decide ((m : Int) > 30) = true := decide_eq_true (by omega)
        clear h3
        go_wp2_with fail
        refine (alive_any w1).mono ?_
        rintro e wz ⟨rfl, hk⟩
        have HKZ := Lib.hid (B1.out.k.trans hk)
        clear hk
        go_wp2
        go_ret
        exact ⟨rfl, HKZ.out⟩
      have e1 : decide ((m : Int) > 30) = false := decide_eq_false (by omega)
      have HG2 := Lib.hid (HGO.out (by omega))
      clear h3
      go_wp2
      go_round
      case measure => have := HLT.out; simp [intOf] <;> omega
      case rel => exact ⟨k + 1, by have := HLT.out; omega, by go_num, HG2.out⟩
    obtain rfl : k = chs.length := by omega
    have HCS : Hid (∀ c ∈ chs, c.length ≤ 30) := Lib.hid fun c hc => by
      obtain ⟨i, hi, rfl⟩ := List.getElem_of_mem hc
      exact hsm i hi hi
    clear hsm hk hlt
    obtain ⟨q0, q1, q2⟩ := B1.out.b
    have qb := lt_of_cell q0
    go_wp2_with fail
    clear q0 q1 q2 qb
    have hF := Free_any o ao bo ca cb w1 B1.out.p
    rw [HF.out] at hF
    simp only [] at hF
    refine hF.mono ?_
    clear hF
    rintro e w2 ⟨_, rfl, ⟨ta, tc, rfl, -, hi, -⟩, hk⟩
    have B2 := Lib.hid (B1.out.kept hk)
    have HI2 := Lib.hid hi
    clear hi hk B1
    obtain ⟨q0, q1, q2⟩ := B2.out.b
    have qb := lt_of_cell q0
    go_wp2_with fail
    clear q0 q1 q2 qb
    have hF := RFree_any o ao bo ca cb w2 B2.out.p HSM.out
    rw [HF.out] at hF
    simp only [] at hF
    refine hF.mono ?_
    clear hF
    rintro e w3 ⟨_, rfl, ⟨sa, sc, rfl, -, hj, -⟩, hk⟩
    have B3 := Lib.hid (B2.out.kept hk)
    have HI3 := Lib.hid (HI2.out.kept hk)
    have HJ3 := Lib.hid hj
    clear hj HI2 hk B2
    obtain ⟨K, hKK⟩ : ∃ K, tru (CFP o l chs) = K := ⟨_, rfl⟩
    have HKK := Lib.hid hKK
    clear hKK
    have ee : (fe == fe) = true := by simp
    have ek : (K == K) = true := by simp
    go_wp2
    refine region_class (fun Z => Kept w3 Z) 22 (by kernel_rfl) (by kernel_rfl) (Kept.refl _).drew ?_
    simp only [List.take_succ_cons, List.take_zero, List.drop_succ_cons, List.drop_zero]
    refine wpQuiet_yield (.bool true) (by rfl) (fun Z hZ => ?_) ?_
    · go_simp
      exact (alive_any Z).mono fun e Z' h => ⟨h.1, hZ.trans h.2⟩
    simp only [Act.put, List.setIfInBounds_toArray, List.set_cons_zero, List.set_cons_succ]
    refine wpQuiet_yield (.bool true) (by rfl) (fun Z hZ => ?_) ?_
    · go_simp
    simp only [Act.put, List.setIfInBounds_toArray, List.set_cons_zero, List.set_cons_succ]
    refine wpQuiet_yield (.int .i64 fe) (by rfl) (fun Z hZ => ?_) ?_
    · go_simp
    simp only [Act.put, List.setIfInBounds_toArray, List.set_cons_zero, List.set_cons_succ]
    refine wpQuiet_yield (.int .i64 fe) (by rfl) (fun Z hZ => ?_) ?_
    · go_simp
    simp only [Act.put, List.setIfInBounds_toArray, List.set_cons_zero, List.set_cons_succ]
    refine wpQuiet_yield (.bool true) (by rfl) (fun Z hZ => ?_) ?_
    · go_simp
    simp only [Act.put, List.setIfInBounds_toArray, List.set_cons_zero, List.set_cons_succ]
    refine wpQuiet_yield (.bool true) (by rfl) (fun Z hZ => ?_) ?_
    · go_simp
    simp only [Act.put, List.setIfInBounds_toArray, List.set_cons_zero, List.set_cons_succ]
    refine wpQuiet_yield (.bool true) (by rfl) (fun Z hZ => ?_) ?_
    · go_simp
    simp only [Act.put, List.setIfInBounds_toArray, List.set_cons_zero, List.set_cons_succ]
    refine wpQuiet_yield (.slice ta F.length tc) (by rfl) (fun Z hZ => ?_) ?_
    · go_simp
    simp only [Act.put, List.setIfInBounds_toArray, List.set_cons_zero, List.set_cons_succ]
    refine wpQuiet_yield (.slice sa F.length sc) (by rfl) (fun Z hZ => ?_) ?_
    · go_simp
    simp only [Act.put, List.setIfInBounds_toArray, List.set_cons_zero, List.set_cons_succ]
    refine wpQuiet_yield (.bool true) (by rfl) (fun Z hZ => ?_) ?_
    · go_simp
      exact (same_any F ta sa tc sc _ Z (HI3.out.kept hZ) (HJ3.out.kept hZ) rfl (by have h : F.length ≤ 24 := HFL.out; omega)).mono fun e Z' h => ⟨h.1, hZ.trans h.2⟩
    simp only [Act.put, List.setIfInBounds_toArray, List.set_cons_zero, List.set_cons_succ]
    refine wpQuiet_yield (.bool true) (by rfl) (fun Z hZ => ?_) ?_
    · go_simp
    simp only [Act.put, List.setIfInBounds_toArray, List.set_cons_zero, List.set_cons_succ]
    refine wpQuiet_yield (.bool true) (by rfl) (fun Z hZ => ?_) ?_
    · go_simp
    simp only [Act.put, List.setIfInBounds_toArray, List.set_cons_zero, List.set_cons_succ]
    refine wpQuiet_yield (.agg #[.int .i64 o.N, .slice ao o.arcs.length ca, .slice bo o.near.length cb]) (by rfl) (fun Z hZ => ?_) ?_
    · obtain ⟨q0, q1, q2⟩ := (B3.out.kept hZ).b
      have qb := lt_of_cell q0
      go_simp
    simp only [Act.put, List.setIfInBounds_toArray, List.set_cons_zero, List.set_cons_succ]
    refine wpQuiet_yield (.slice lo l.length lc) (by rfl) (fun Z hZ => ?_) ?_
    · go_simp
    simp only [Act.put, List.setIfInBounds_toArray, List.set_cons_zero, List.set_cons_succ]
    refine wpQuiet_yield (.slice co chs.length cc) (by rfl) (fun Z hZ => ?_) ?_
    · go_simp
    simp only [Act.put, List.setIfInBounds_toArray, List.set_cons_zero, List.set_cons_succ]
    refine wpQuiet_yield (.bool K) (by rfl) (fun Z hZ => ?_) ?_
    · go_simp
      have hF := CheckFree_any o ao bo ca cb l lo lc chs co cc Z (B3.out.kept hZ).p (B3.out.kept hZ).l HLC.out H30.out (B3.out.kept hZ).c H31.out HCS.out
      refine hF.mono fun e Z' h => ?_
      have h2 := h.gives
      rw [HKK.out] at h2
      exact ⟨h2.1, hZ.trans h2.2⟩
    simp only [Act.put, List.setIfInBounds_toArray, List.set_cons_zero, List.set_cons_succ]
    refine wpQuiet_yield (.agg #[.int .i64 o.N, .slice ao o.arcs.length ca, .slice bo o.near.length cb]) (by rfl) (fun Z hZ => ?_) ?_
    · obtain ⟨q0, q1, q2⟩ := (B3.out.kept hZ).b
      have qb := lt_of_cell q0
      go_simp
    simp only [Act.put, List.setIfInBounds_toArray, List.set_cons_zero, List.set_cons_succ]
    refine wpQuiet_yield (.slice lo l.length lc) (by rfl) (fun Z hZ => ?_) ?_
    · go_simp
    simp only [Act.put, List.setIfInBounds_toArray, List.set_cons_zero, List.set_cons_succ]
    refine wpQuiet_yield (.slice co chs.length cc) (by rfl) (fun Z hZ => ?_) ?_
    · go_simp
    simp only [Act.put, List.setIfInBounds_toArray, List.set_cons_zero, List.set_cons_succ]
    refine wpQuiet_yield (.bool K) (by rfl) (fun Z hZ => ?_) ?_
    · go_simp
      have hF := RCheckFree_any o ao bo ca cb l lo lc chs co cc Z (B3.out.kept hZ).p (B3.out.kept hZ).l H30.out (B3.out.kept hZ).c H31.out HCS.out
      refine hF.mono fun e Z' h => ?_
      have h2 := h.gives
      rw [HKK.out] at h2
      exact ⟨h2.1, hZ.trans h2.2⟩
    simp only [Act.put, List.setIfInBounds_toArray, List.set_cons_zero, List.set_cons_succ]
    refine wpQuiet_yield (.bool true) (by rfl) (fun Z hZ => ?_) ?_
    · go_simp
    simp only [Act.put, List.setIfInBounds_toArray, List.set_cons_zero, List.set_cons_succ]
    refine wpQuiet_yield (.bool true) (by rfl) (fun Z hZ => ?_) ?_
    · go_simp
    simp only [Act.put, List.setIfInBounds_toArray, List.set_cons_zero, List.set_cons_succ]
    refine wpQuiet_nil ?_
    intro w4 hk4
    have B4 := Lib.hid (B3.out.kept hk4)
    clear hk4
    go_wp2
    go_ret
    exact ⟨rfl, B4.out.k⟩
end Go.Proofs.Yteljjkghjbofnaa
