/- ref.ways. -/
import Derived.Test.YteljjkghjbofnaaTw
import Derived.Test.YteljjkghjbofnaaYc
set_option maxRecDepth 100000
namespace Go.Proofs.Yteljjkghjbofnaa
open Go Go.Proofs Go.RowKit
attribute [local go_sem] Oper.semAt_some

/-- The table, filled from j on. -/
def tabK (W : Web) (m j : Nat) : List Int := (List.range m).map fun s => if j ≤ s then cnt W (BitVec.ofNat 32 s) else 0
theorem tabK_len (W : Web) (m j : Nat) : (tabK W m j).length = m := by simp [tabK]
theorem tabK_get (W : Web) (m j s : Nat) (h : s < (tabK W m j).length) : (tabK W m j)[s] = if j ≤ s then cnt W (BitVec.ofNat 32 s) else 0 := by simp [tabK]
theorem tabK_none (W : Web) (m : Nat) : tabK W m m = List.replicate m 0 := by
  refine List.ext_getElem (by simp [tabK]) fun i h1 h2 => ?_
  rw [tabK_len] at h1
  rw [tabK_get, if_neg (by omega)]
  simp
theorem tabK_start (W : Web) (m s : Nat) : (tabK W m (s + 1)).set s 0 = tabK W m (s + 1) := by
  refine List.ext_getElem (by simp) fun i h1 h2 => ?_
  rw [List.getElem_set]
  by_cases h : s = i
  · subst h; rw [if_pos rfl, tabK_get, if_neg (by omega)]
  · rw [if_neg h]
theorem tabK_end (W : Web) (m s : Nat) : (tabK W m (s + 1)).set s (cnt W (BitVec.ofNat 32 s)) = tabK W m s := by
  refine List.ext_getElem (by simp [tabK]) fun i h1 h2 => ?_
  rw [List.getElem_set, tabK_get W m s]
  by_cases h : s = i
  · subst h; rw [if_pos rfl, if_pos (Nat.le_refl _)]
  · rw [if_neg h, tabK_get]
    by_cases h3 : s + 1 ≤ i
    · rw [if_pos h3, if_pos (by omega)]
    · rw [if_neg h3, if_neg (by omega)]
theorem whole_toNat {n : Nat} (hn : n < 32) : (wholeS n).toNat = 2 ^ n - 1 := by
  have h2 : 0 < 2 ^ n := Nat.two_pow_pos n
  have h3 : 2 ^ n < 2 ^ 32 := Nat.pow_lt_pow_right (by decide) hn
  unfold wholeS oneS
  rw [BitVec.toNat_sub, BitVec.toNat_shiftLeft]
  simp only [BitVec.toNat_ofNat, Nat.shiftLeft_eq]
  omega
theorem whole_nat {n s : Nat} (hn : n ≤ 12) (hs : s < 2 ^ n) : BitVec.ofNat 32 s = wholeS n ↔ s = 2 ^ n - 1 := by
  have h3 : 2 ^ n ≤ 2 ^ 12 := Nat.pow_le_pow_right (by decide) hn
  rw [← BitVec.toNat_inj, whole_toNat (by omega), BitVec.toNat_ofNat, Nat.mod_eq_of_lt (by omega)]
/-- Do the arcs of l let a come after d? -/
def canA (l : List (Int × Int)) (d : S) (a : Nat) : Bool := l.all fun x => !(x.2 == (a : Int)) || hasS d x.1.toNat
theorem canA_succ (l : List (Int × Int)) (d : S) (a : Nat) {k : Nat} (hk : k < l.length) : canA (l.take (k + 1)) d a = (canA (l.take k) d a && (!((l[k]).2 == (a : Int)) || hasS d (l[k]).1.toNat)) := by
  unfold canA
  rw [List.take_succ_eq_append_getElem hk, List.all_append]
  simp
theorem ready_arcs {o : Prob} (hc : chk o = 0) (d : S) {a : Nat} : readyB (webOf o) d a = (!hasS d a && canA o.arcs d a) := by
  unfold readyB canA
  congr 1
  rw [Bool.eq_iff_iff]
  simp only [List.all_eq_true, List.mem_range, Bool.or_eq_true, Bool.not_eq_true', beq_eq_false_iff_ne]
  have hn := webOf_nI hc
  have hp := (pair_of_chk hc).2.2.1
  constructor
  · intro h x hx
    have h1 := hp x hx
    by_cases hxa : x.2 = (a : Int)
    · have h2 := h x.1.toNat (by omega)
      have h3 : hasS ((webOf o).to x.1.toNat) a = true := (webOf_to hc _ _).2 (by
        have : ((x.1.toNat : Int), (a : Int)) = x := by rw [← hxa, Int.toNat_of_nonneg h1.1]
        rw [this]; exact hx)
      rw [h3] at h2
      exact .inr (h2.resolve_left (by simp))
    · exact .inl hxa
  · intro h b _
    cases hb : hasS ((webOf o).to b) a
    · exact .inl rfl
    · have := h _ ((webOf_to hc _ _).1 hb)
      simp at this
      exact .inr this
theorem cntSum_no {W : Web} {d : S} {a : Nat} (h : readyB W d a = false) : cntSum W d ((List.range (a + 1)).filter (readyB W d)) = cntSum W d ((List.range a).filter (readyB W d)) := by
  rw [List.range_succ, List.filter_append, List.filter_cons, if_neg (by rw [h]; simp)]; simp
theorem cntSum_yes {W : Web} {d : S} {a : Nat} (h : readyB W d a = true) : cntSum W d ((List.range (a + 1)).filter (readyB W d)) = wrap64 (cntSum W d ((List.range a).filter (readyB W d)) + cnt W (d ||| oneS a)) := by
  rw [List.range_succ, List.filter_append, List.filter_cons, if_pos h]
  unfold cntSum
  rw [List.foldl_append]; rfl
theorem shl_i64 (n : Int) : IntKind.i64.wrap n = wrap64 n := by rw [IntKind.wrap_i64]; unfold wrap64; omega

set_option maxHeartbeats 2000000 in
theorem Rways_any (o : Prob) (ao bo : Option Addr) (ca cb : Nat) (w : World) (ho : IsProb w o ao bo) (hc : chk o = 0) (hn : (webOf o).n ≤ 12) :
    Calls Try.prog 114 #[probV o ao ca bo cb] w (fun e w' => ∃ g, e = .returned (.slice (some ⟨g, 0, none⟩) (2 ^ (webOf o).n) (2 ^ (webOf o).n)) ∧ w.heap.size ≤ g ∧ Arr w' g (tabK (webOf o) (2 ^ (webOf o).n) 0) ∧ Kept w w') := by
  have HO := Lib.hid ho
  have HC := Lib.hid hc
  have HN := Lib.hid (webOf_nI hc)
  have HN12 := Lib.hid hn
  have hm12 : 2 ^ (webOf o).n ≤ 4096 := Nat.pow_le_pow_right (by decide) hn
  have hm0 : 0 < 2 ^ (webOf o).n := Nat.two_pow_pos _
  have hsh : wrap64 (2 ^ min (IntKind.u64.wrap o.N).toNat 64) = ((2 ^ (webOf o).n : Nat) : Int) := by
    rw [← HN.out, IntWalk.u64_in _ (by omega), Int.toNat_natCast, Nat.min_eq_left (by omega)]
    have : (2 : Int) ^ (webOf o).n = ((2 ^ (webOf o).n : Nat) : Int) := by simp
    rw [this]
    generalize 2 ^ (webOf o).n = z at *
    unfold wrap64; omega
  clear ho hc
  obtain ⟨m, hm⟩ : ∃ m, 2 ^ (webOf o).n = m := ⟨_, rfl⟩
  rw [hm] at hm12 hm0 hsh ⊢
  have HM := Lib.hid hm
  clear hm
  go_enter Try.func114, Try.ntmps114
  go_wp2_with (at_make; obtain ⟨w0, e0, hk0, hb0, hs0⟩ := alloc_prob w o.N o.arcs o.near ao ca bo cb; rw [e0]; refine make_ints w0 rfl _ _ rfl m (congrArg (Value.int .i64) hsh) (congrArg (Value.int .i64) hsh) (by omega) ?_; intro w1 ha1 hk1)
  obtain ⟨g, hg⟩ : ∃ g, w0.heap.size = g := ⟨_, rfl⟩
  rw [hg] at ha1 ⊢
  have HG : Hid (w.heap.size < g) := Lib.hid (by omega)
  have HG0 : Hid (w0.heap.size ≤ g) := Lib.hid (by omega)
  have HA1 := Lib.hid ha1
  have HK1 := Lib.hid hk1
  have HK0 := Lib.hid hk0
  have HB0 := Lib.hid hb0
  have hw : wrap64 ((m : Int) - 1) = (m : Int) - 1 := by unfold wrap64; omega
  clear ha1 hk1 hk0 hb0 hs0 e0 hg hsh
  go_wp2
  go_loopw [4] (fun i wr => ∃ j : Nat, j ≤ m ∧ i = .int .i64 ((j : Int) - 1) ∧ Kept w0 wr ∧ Arr wr g (tabK (webOf o) m j)) (fun i _ => (intOf i + 1).toNat)
  case atStart => exact ⟨m, Nat.le_refl _, by go_num, HK1.out, by rw [tabK_none]; exact HA1.out⟩
  case round =>
    clear HK1 HA1
    obtain ⟨j, hj, rfl, hkw, harr⟩ := hrel
    have HKW := Lib.hid hkw
    have HAR := Lib.hid harr
    clear hkw harr
    cases j with
    | zero =>
      go_wp2
      go_ret
      exact ⟨g, rfl, by have := HG.out; omega, HAR.out, HK0.out.trans HKW.out⟩
    | succ s =>
      have hs1 : ((s + 1 : Nat) : Int) - 1 = (s : Int) := by omega
      rw [hs1]
      clear hs1
      have hge : decide ((s : Int) ≥ 0) = true := decide_eq_true (by omega)
      have HS : Hid (s < m) := Lib.hid hj
      have hst : s < (tabK (webOf o) m (s + 1)).length := by rw [tabK_len]; exact hj
      have h0 := HAR.out.get s hst
      have hf := HAR.out.free s
      have hl := HAR.out.lt
      by_cases hsm : s = m - 1
      · have e1 : ((s : Int) == (m : Int) - 1) = true := by simp; omega
        have HC1 : Hid (cnt (webOf o) (BitVec.ofNat 32 s) = 1) := Lib.hid (by
          have h12 := HN12.out
          rw [cnt_eq (by omega), if_pos ((whole_nat h12 (by rw [HM.out]; exact hj)).2 (by rw [HM.out]; exact hsm))])
        clear hsm
        go_wp2
        go_roundw
        case measure => simp [intOf] <;> omega
        case rel =>
          have h9 := HAR.out.set (i := s) 1
          refine ⟨s, by omega, by go_num, HKW.out.setCell (p := ⟨g, s, none⟩) HG0.out _, ?_⟩
          rw [← HC1.out, tabK_end] at h9
          rw [← HC1.out]
          exact h9
      · have e1 : ((s : Int) == (m : Int) - 1) = false := by simp; omega
        have HCS : Hid (cnt (webOf o) (BitVec.ofNat 32 s) = cntSum (webOf o) (BitVec.ofNat 32 s) ((List.range (webOf o).n).filter (readyB (webOf o) (BitVec.ofNat 32 s)))) := Lib.hid (by
          have h12 := HN12.out
          rw [cnt_eq (by omega), if_neg (fun h => hsm ((whole_nat h12 (by rw [HM.out]; exact hj)).1 h |>.trans (by rw [HM.out])))]
          rfl)
        clear hsm h0 hf hl
        go_wp2
        go_loopw [5] (fun i wr => ∃ a : Nat, a ≤ (webOf o).n ∧ i = .int .i64 a ∧ Kept w0 wr ∧ Arr wr g ((tabK (webOf o) m (s + 1)).set s (cntSum (webOf o) (BitVec.ofNat 32 s) ((List.range a).filter (readyB (webOf o) (BitVec.ofNat 32 s)))))) (fun i _ => (webOf o).n - (intOf i).toNat)
        case atStart => exact ⟨0, Nat.zero_le _, rfl, HKW.out, by show Arr _ g ((tabK (webOf o) m (s + 1)).set s 0); rw [tabK_start]; exact HAR.out⟩
        case round =>
          obtain ⟨a, ha, rfl, hkw, harr⟩ := hrel
          have HKW2 := Lib.hid hkw
          have HAR2 := Lib.hid harr
          have HBR := Lib.hid (HB0.out.kept hkw)
          clear hkw harr HKW HAR
          obtain ⟨q0, q1, q2⟩ := HBR.out
          simp only [] at q0 q1 q2
          have qb := lt_of_cell q0
          have hs4 : s < 4096 := by omega
          by_cases han : a < (webOf o).n
          · have hai : decide ((a : Int) < o.N) = true := decide_eq_true (by have := HN.out; omega)
            have hbi := bit_is s a hs4
            have HAN := Lib.hid han
            have ha12 : a < 12 := by omega
            have HRA := Lib.hid (ready_arcs HC.out (BitVec.ofNat 32 s) (a := a))
            cases hb : hasS (BitVec.ofNat 32 s) a
            · rw [hb] at hbi HRA
              have HGT : Hid (s < s ||| 2 ^ a ∧ s ||| 2 ^ a < m) := Lib.hid (by
                have hM := HM.out
                exact ⟨or_gt (by rw [hM]; exact hj) hn hb han, by rw [← hM]; exact or_bound (by rw [hM]; exact hj) han⟩)
              clear hb han ha
              go_wp2
              clear q0 q1 q2 qb hbi
              go_loop [6, 7] (fun cn i => ∃ k : Nat, k ≤ o.arcs.length ∧ i = .int .i64 k ∧ cn = .bool (canA (o.arcs.take k) (BitVec.ofNat 32 s) a)) (fun _ i => o.arcs.length - (intOf i).toNat)
              case atStart => exact ⟨0, Nat.zero_le _, rfl, rfl⟩
              case round =>
                obtain ⟨k, hk, rfl, rfl⟩ := hrel
                obtain ⟨q0, q1, q2⟩ := HBR.out
                simp only [] at q0 q1 q2
                have qb := lt_of_cell q0
                have hla := HO.out.la
                by_cases hkl : k < o.arcs.length
                · have HCS2 := Lib.hid (canA_succ o.arcs (BitVec.ofNat 32 s) a hkl)
                  obtain ⟨x, y, hxy, hx, hy⟩ := pair_nat HN.out (pair_of_chk HC.out).2.2.1 hkl
                  obtain ⟨B, off, rfl, c0, c1⟩ := (HO.out.kept (HK0.out.trans HKW2.out)).arcs k hkl
                  rw [hxy] at c0 c1 HCS2
                  generalize canA (o.arcs.take k) (BitVec.ofNat 32 s) a = cn at *
                  have HCK := HCS2.out
                  simp only [Int.toNat_natCast] at HCK
                  have HCK2 := Lib.hid HCK
                  clear HCK HCS2 hxy
                  have HKL := Lib.hid hkl
                  have hx12 : x < 12 := by omega
                  have hbx := bit_not s x hs4
                  by_cases hya : y = a
                  · subst hya
                    have e2 : ((y : Int) == (y : Int)) = true := by simp
                    rw [e2] at HCK2
                    cases hh : hasS (BitVec.ofNat 32 s) x
                    · rw [hh] at hbx HCK2
                      clear hh hk hkl
                      go_wp2
                      go_round
                      case measure => have := HKL.out; simp [intOf] <;> omega
                      case rel => exact ⟨k + 1, HKL.out, by go_num, by rw [HCK2.out]; simp⟩
                    · rw [hh] at hbx HCK2
                      clear hh hk hkl
                      go_wp2
                      go_round
                      case measure => have := HKL.out; simp [intOf] <;> omega
                      case rel => exact ⟨k + 1, HKL.out, by go_num, by rw [HCK2.out]; simp⟩
                  · have e2 : ((y : Int) == (a : Int)) = false := by simp; omega
                    rw [e2] at HCK2
                    clear hya hk hkl hbx
                    go_wp2
                    go_round
                    case measure => have := HKL.out; simp [intOf] <;> omega
                    case rel => exact ⟨k + 1, HKL.out, by go_num, by rw [HCK2.out]; simp⟩
                · obtain rfl : k = o.arcs.length := by omega
                  rw [List.take_length]
                  clear hk hkl
                  cases hr : canA o.arcs (BitVec.ofNat 32 s) a
                  · have HNR : Hid (readyB (webOf o) (BitVec.ofNat 32 s) a = false) := Lib.hid (by rw [HRA.out, hr]; rfl)
                    clear hr
                    go_wp2
                    go_roundw
                    case measure => have := HAN.out; simp [intOf] <;> omega
                    case rel => exact ⟨a + 1, HAN.out, by go_num, HKW2.out, by rw [cntSum_no HNR.out]; exact HAR2.out⟩
                  · have HYR : Hid (readyB (webOf o) (BitVec.ofNat 32 s) a = true) := Lib.hid (by rw [HRA.out, hr]; rfl)
                    clear hr
                    have HOA := Lib.hid (ofNat_or s a ha12)
                    have hor := or_one s a hs4 ha12
                    have hsh := shl_one a ha12
                    have hshi : IntKind.i64.wrap (2 ^ min (IntKind.u64.wrap (a : Int)).toNat 64) = ((2 ^ a : Nat) : Int) := (shl_i64 _).trans hsh
                    have hgt := HGT.out
                    have hAr := HAR2.out
                    have HSS := Lib.hid (cntSum_yes HYR.out)
                    rw [← HOA.out] at HSS
                    generalize cntSum (webOf o) (BitVec.ofNat 32 s) ((List.range a).filter (readyB (webOf o) (BitVec.ofNat 32 s))) = v at *
                    generalize s ||| 2 ^ a = s2 at *
                    generalize 2 ^ a = p2 at *
                    have hl1 : s < ((tabK (webOf o) m (s + 1)).set s v).length := by rw [List.length_set, tabK_len]; omega
                    have hl2 : s2 < ((tabK (webOf o) m (s + 1)).set s v).length := by rw [List.length_set, tabK_len]; omega
                    have v0 := hAr.get s hl1
                    have v1 := hAr.get s2 hl2
                    rw [List.getElem_set_self] at v0
                    rw [List.getElem_set_ne (by omega), tabK_get, if_pos (by omega)] at v1
                    have vf := hAr.free s
                    have vl := hAr.lt
                    have h2m := hgt.2
                    have h1m : s < m := by omega
                    clear hl1 hl2 hAr hgt
                    generalize cnt (webOf o) (BitVec.ofNat 32 s2) = c2 at *
                    go_wp2
                    refine region_tail 16 (by kernel_rfl) (by kernel_rfl) ?_
                    simp only [List.take_succ_cons, List.take_zero, List.drop_succ_cons, List.drop_zero]
                    iterate 16
                      with_reducible refine wpStill_want ?_ (fun K hK => ?_)
                      · rfl
                      go_simp
                      refine hK _ ?_
                      clear hK K
                    with_reducible refine wpStill_nil ?_
                    go_wp2
                    go_roundw
                    case measure => have := HAN.out; simp [intOf] <;> omega
                    case rel =>
                      have h9 := (HAR2.out.kept (Kept.refl _).drew).set (i := s) (wrap64 (v + c2))
                      rw [List.set_set] at h9
                      exact ⟨a + 1, HAN.out, by go_num, HKW2.out.drew.setCell (p := ⟨g, s, none⟩) HG0.out _, by rw [HSS.out]; exact h9⟩
            · rw [hb] at hbi
              have HNR : Hid (readyB (webOf o) (BitVec.ofNat 32 s) a = false) := Lib.hid (by rw [HRA.out, hb]; rfl)
              clear hb han ha
              go_wp2
              go_roundw
              case measure => have := HAN.out; simp [intOf] <;> omega
              case rel => exact ⟨a + 1, HAN.out, by go_num, HKW2.out, by rw [cntSum_no HNR.out]; exact HAR2.out⟩
          · obtain rfl : a = (webOf o).n := by omega
            have hai : decide (((webOf o).n : Int) < o.N) = false := decide_eq_false (by have := HN.out; omega)
            have HE9 := HAR2.out
            rw [← HCS.out, tabK_end] at HE9
            have HE := Lib.hid HE9
            clear HE9 ha han
            go_wp2
            go_roundw
            case measure => simp [intOf] <;> omega
            case rel => exact ⟨s, by omega, by go_num, HKW2.out, HE.out⟩
end Go.Proofs.Yteljjkghjbofnaa
