/- OrderEarliest. -/
import Derived.Test.YteljjkghjbofnaaTl
import Derived.Test.YteljjkghjbofnaaXh
set_option maxRecDepth 100000
namespace Go.Proofs.Yteljjkghjbofnaa
open Go Go.Proofs Go.RowKit
attribute [local go_sem] Oper.semAt_some

theorem checkDays_kept {o : Prob} {dry : Int} {d : List Int} (hc : chk o = 0) (hd : 0 ≤ dry ∧ dry ≤ 30) (hk : keptB (webOf o) dry d = true) : CheckDaysR o dry d = (true, 0) := by
  unfold CheckDaysR
  rw [if_pos hc, if_pos hd, hk]
theorem Wait_all (o : Prob) (ao bo : Option Addr) (ca cb : Nat) (dry : Int) (w : World) (ho : IsProb w o ao bo) (hc : chk o = 0) (hdry : 0 ≤ dry ∧ dry ≤ 30) (hn8 : (webOf o).n ≤ 8) {l : List Int} (hl : orderedB (webOf o) l = true) :
    Calls Try.prog 28 #[probV o ao ca bo cb, .int .i64 dry] w (fun e w' => ∃ lo0 n0 c0 lo c d1, e = .returned (.tuple #[.agg #[.slice lo0 n0 c0, .slice lo d1.length c], .int .i64 0]) ∧ Ints w' lo d1 ∧ d1.length ≤ 24 ∧ CheckDaysR o dry d1 = (true, 0) ∧ lastK d1 d1.length ≤ lastK (daysOf (webOf o) dry l) (daysOf (webOf o) dry l).length ∧ Kept w w') := by
  have hn := webOf_n hc
  have hirr : ∀ p, p < (webOf o).n → hasS ((webOf o).to p) p = false := fun p _ => webOf_irr hc p
  by_cases h0 : (webOf o).n = 0
  · refine (Wait_none o ao bo ca cb dry w ho hc hdry h0).mono ?_
    rintro e w' ⟨rfl, hk⟩
    have hlen : (daysOf (webOf o) dry l).length = 0 := by rw [show (daysOf (webOf o) dry l).length = (webOf o).n from daysPart_length (webOf o) dry l l.length]; exact h0
    refine ⟨none, 0, 0, none, 0, [], rfl, Ints.nil _ _, by simp, checkDays_kept hc hdry ?_, by rw [hlen]; exact Int.le_refl _, hk⟩
    refine keptB_iff.2 ⟨by simp [h0], fun a ha => absurd ha (Nat.not_lt_zero _), fun a b ha => by omega⟩
  · have he : errS o = 0 := by
      unfold errS
      rw [if_pos hc, ordered_circ hn (woven_of o) hirr hl]
      rfl
    refine (Wait_ok o ao bo ca cb dry w ho he hdry hn8 (by omega)).mono ?_
    rintro e w' ⟨v1, v2, o1, d1, rfl, ⟨q, hq, h1, h2⟩, hl1, hl2, hk⟩
    obtain ⟨lo, c, rfl, hi⟩ := hl2
    obtain ⟨lo0, c0, rfl, -⟩ := hl1
    obtain ⟨g1, rfl, g3⟩ := wait_least hn (by omega) hirr hdry hq h1 h2 hl
    have hlen : (daysOf (webOf o) dry o1).length = (webOf o).n := daysPart_length (webOf o) dry o1 o1.length
    exact ⟨lo0, _, c0, lo, c, _, rfl, hi, by omega, checkDays_kept hc hdry (days_kept hn hirr (near_sym hc) hdry g1), last_le hn (by omega) hdry g1 hl g3, hk⟩

set_option maxHeartbeats 400000 in
theorem OrderEarliest_wide (o : Prob) (ao bo : Option Addr) (ca cb : Nat) (dry : Int) (d : List Int) (lo : Option Addr) (c : Nat) (w : World) (ho : slimB o = true → IsProb w o ao bo) (hl : Ints w lo d) (h : slimB o = false ∨ 24 < d.length ∨ (CheckDaysR o dry d).2 ≠ 0 ∨ (CheckDaysR o dry d).1 = false) :
    Calls Try.prog 9 #[probV o ao ca bo cb, .int .i64 dry, .slice lo d.length c] w (Gives (.bool true) w) := by
  have HO := Lib.hid ho
  have HL := Lib.hid hl
  clear ho hl
  go_enter Try.func9, Try.ntmps9
  go_wp2_with fail
  obtain ⟨w0, e0, hk0, hb0, -⟩ := alloc_prob w o.N o.arcs o.near ao ca bo cb
  rw [e0]
  clear e0
  have HK0 := Lib.hid hk0
  have HB0 := Lib.hid hb0
  clear hk0
  obtain ⟨q0, q1, q2⟩ := hb0
  have qb := lt_of_cell q0
  go_wp2_with fail
  clear q0 q1 q2 qb
  refine (slim_any o ao bo ca cb w0).mono ?_
  rintro e w1 ⟨rfl, hk⟩
  have HK1 := Lib.hid (HK0.out.trans hk)
  have HB1 := Lib.hid (HB0.out.kept hk)
  clear hk HK0 HB0
  cases hs : slimB o
  · clear h hs
    go_wp2_with fail
    refine (alive_any w1).mono ?_
    rintro e w1z ⟨rfl, hk⟩
    have HKZ := Lib.hid (HK1.out.trans hk)
    clear hk
    go_wp2
    go_ret
    exact ⟨rfl, HKZ.out⟩
  · have HOK := Lib.hid (HO.out hs)
    have h2 := h.resolve_left (by rw [hs]; simp)
    clear h hs HO
    by_cases h24 : 24 < d.length
    · have hd : decide ((24 : Int) < d.length) = true := decide_eq_true (by omega)
      clear h2 h24
      go_wp2_with fail
      refine (alive_any w1).mono ?_
      rintro e w1z ⟨rfl, hk⟩
      have HKZ := Lib.hid (HK1.out.trans hk)
      clear hk
      go_wp2
      go_ret
      exact ⟨rfl, HKZ.out⟩
    · have hd : decide ((24 : Int) < d.length) = false := decide_eq_false (by omega)
      have h3 := h2.resolve_left h24
      have hll : d.length < 1152921504606846976 := by omega
      have HLL := Lib.hid hll
      clear h2 h24 hll
      obtain ⟨q0, q1, q2⟩ := HB1.out
      have qb := lt_of_cell q0
      go_wp2_with fail
      clear q0 q1 q2 qb hd
      have hF := CheckDays_any o ao bo ca cb dry d lo c w1 (HOK.out.kept HK1.out) (HL.out.kept HK1.out) HLL.out
      refine hF.mono ?_
      clear hF
      rintro e w2 ⟨rfl, hk⟩
      have HK2 := Lib.hid (HK1.out.trans hk)
      clear hk HK1 HB1 HL
      have hfe : (CheckDaysR o dry d).2 ≠ 0 → (CheckDaysR o dry d).1 = false := by
        unfold CheckDaysR
        by_cases hc : chk o = 0
        · rw [if_pos hc]
          by_cases hd : 0 ≤ dry ∧ dry ≤ 30
          · rw [if_pos hd]; intro h; exact absurd rfl h
          · rw [if_neg hd]; intro _; rfl
        · rw [if_neg hc]; intro _; rfl
      generalize (CheckDaysR o dry d).2 = er at *
      generalize (CheckDaysR o dry d).1 = kb at *
      by_cases he : er = 0
      · subst he
        obtain rfl := h3.resolve_left (by simp)
        clear h3 hfe
        go_wp2_with fail
        refine (alive_any w2).mono ?_
        rintro e w2z ⟨rfl, hk⟩
        have HKZ := Lib.hid (HK2.out.trans hk)
        clear hk
        go_wp2
        go_ret
        exact ⟨rfl, HKZ.out⟩
      · obtain rfl := hfe he
        have e1 : (er != 0) = true := by simp [he]
        have e2 : (er == 0) = false := by simp [he]
        clear h3 hfe he
        go_wp2_with fail
        refine (alive_any w2).mono ?_
        rintro e w2z ⟨rfl, hk⟩
        have HKZ := Lib.hid (HK2.out.trans hk)
        clear hk
        go_wp2
        go_ret
        exact ⟨rfl, HKZ.out⟩

set_option maxHeartbeats 4000000 in
theorem OrderEarliest_main (o : Prob) (ao bo : Option Addr) (ca cb : Nat) (dry : Int) (d : List Int) (lo : Option Addr) (c : Nat) (w : World) (ho : IsProb w o ao bo) (hl : Ints w lo d) (hs : slimB o = true) (h24 : d.length ≤ 24) (hc : chk o = 0) (hd : 0 ≤ dry ∧ dry ≤ 30) (hk : keptB (webOf o) dry d = true) :
    Calls Try.prog 9 #[probV o ao ca bo cb, .int .i64 dry, .slice lo d.length c] w (Gives (.bool true) w) := by
  obtain ⟨n, hn⟩ : ∃ n, d.length = n := ⟨_, rfl⟩
  have hWn : (webOf o).n = n := by rw [← hn]; exact (keptB_iff.1 hk).1.symm
  have hWi : (n : Int) = o.N := by rw [← hWn]; exact webOf_nI hc
  have hsf : ∀ j, j ≤ n → SortF d (sortK d j) j := fun j hj => sortK_facts d j (by omega)
  have hord : orderedB (webOf o) (sortK d n) = true := sort_ordered (webOf_n hc) hk (by rw [hn]; exact hsf n (Nat.le_refl _))
  have HSD : Hid (∀ p, p < n → (daysOf (webOf o) dry (sortK d n)).getD p 0 ≤ d.getD p 0) := Lib.hid (by
    intro p hp
    obtain ⟨k1, k2, k3, k4⟩ := orderedB_iff.1 hord
    obtain ⟨i, hi, e⟩ := at_full k1 k2 k3 (q := p) (by omega)
    have := sort_days (webOf_n hc) hd.1 hk (l := sortK d n) (by rw [hn]; exact hsf n (Nat.le_refl _)) (i + 1) i (by omega) hi
    rw [e] at this
    exact this)
  have HDL : Hid ((daysOf (webOf o) dry (sortK d n)).length = n) := Lib.hid (by rw [show (daysOf (webOf o) dry (sortK d n)).length = (webOf o).n from daysPart_length _ _ _ _]; exact hWn)
  have HDR : Hid (DaysR o dry (sortK d n) = (daysOf (webOf o) dry (sortK d n), 0)) := Lib.hid (by
    have : datErr o dry (sortK d n) = 0 := by unfold datErr; rw [if_pos hc, if_pos ⟨hd, hord⟩]
    unfold DaysR
    rw [this]
    rfl)
  have HDC : Hid (CheckDaysR o dry (daysOf (webOf o) dry (sortK d n)) = (true, 0)) := Lib.hid (checkDays_kept hc hd (days_kept (webOf_n hc) (fun p _ => webOf_irr hc p) (near_sym hc) hd hord))
  have HCD : Hid (CheckDaysR o dry d = (true, 0)) := Lib.hid (checkDays_kept hc hd hk)
  have HW8 : Hid (8 < n → ∀ X : World, IsProb X o ao bo → Calls Try.prog 28 #[probV o ao ca bo cb, .int .i64 dry] X (Gives (.tuple #[.agg #[.slice none 0 0, .slice none 0 0], .int .i64 2]) X)) := Lib.hid fun h X hX => Wait_limit o ao bo ca cb dry X hX hc hd (by omega)
  have HWA : Hid (n ≤ 8 → ∀ X : World, IsProb X o ao bo → Calls Try.prog 28 #[probV o ao ca bo cb, .int .i64 dry] X (fun e w' => ∃ lo0 n0 c0 lo c d1, e = .returned (.tuple #[.agg #[.slice lo0 n0 c0, .slice lo d1.length c], .int .i64 0]) ∧ Ints w' lo d1 ∧ d1.length ≤ 24 ∧ CheckDaysR o dry d1 = (true, 0) ∧ lastK d1 d1.length ≤ lastK (daysOf (webOf o) dry (sortK d n)) (daysOf (webOf o) dry (sortK d n)).length ∧ Kept X w')) := Lib.hid fun h X hX => Wait_all o ao bo ca cb dry X hX hc hd (by omega) hord
  have HSF := Lib.hid hsf
  have HNI := Lib.hid hWi
  have HDN := Lib.hid hn
  have h24n : n ≤ 24 := by omega
  have H24 := Lib.hid h24n
  have HP := Lib.hid ho
  have HI0 := Lib.hid hl
  have HSL := Lib.hid hs
  have hdd : decide ((24 : Int) < (n : Int)) = false := decide_eq_false (by omega)
  rw [hn]
  clear hn hWn hWi hsf hord h24 ho hl hs hc hd hk
  generalize daysOf (webOf o) dry (sortK d n) = D at *
  go_enter Try.func9, Try.ntmps9
  go_wp2_with fail
  obtain ⟨w0, e0, hk0, hb0, -⟩ := alloc_prob w o.N o.arcs o.near ao ca bo cb
  rw [e0]
  clear e0
  have HK0 := Lib.hid hk0
  have HB0 := Lib.hid hb0
  clear hk0
  obtain ⟨q0, q1, q2⟩ := hb0
  have qb := lt_of_cell q0
  have B0 : Hid (Bag w w0 w.heap.size o ao ca bo cb lo d) := Lib.hid ⟨HP.out.kept HK0.out, HB0.out, HI0.out.kept HK0.out, HK0.out⟩
  clear HP HI0 HK0 HB0
  go_wp2_with fail
  clear q0 q1 q2 qb
  have hF := slim_any o ao bo ca cb w0
  rw [HSL.out] at hF
  refine hF.mono ?_
  clear hF
  rintro e w1 ⟨rfl, hk⟩
  have B1 := Lib.hid (B0.out.kept hk)
  clear hk B0
  obtain ⟨q0, q1, q2⟩ := B1.out.b
  have qb := lt_of_cell q0
  go_wp2_with fail
  clear q0 q1 q2 qb hdd
  have hF := CheckDays_any o ao bo ca cb dry d lo c w1 B1.out.p B1.out.l (by rw [HDN.out]; have := H24.out; omega)
  rw [HCD.out, HDN.out] at hF
  refine hF.mono ?_
  clear hF
  rintro e w2 ⟨rfl, hk⟩
  have B2 := Lib.hid (B1.out.kept hk)
  clear hk B1
  have HSZ : Hid (w.heap.size ≤ w2.heap.size) := Lib.hid B2.out.k.size
  go_wp2
  go_loopw [9] (fun v wr => ∃ k : Nat, k ≤ n ∧ OwnI wr w2.heap.size v (sortK d k) ∧ Kept w2 wr) (fun v _ => n - (match v with | .slice _ k _ => k | _ => 0))
  case atStart => exact ⟨0, Nat.zero_le _, OwnI.nil _ _, Kept.refl _⟩
  case round =>
    obtain ⟨k, hk, hown, hkw⟩ := hrel
    obtain ⟨fo, fc, rfl, hfc, hfi⟩ := hown.slice
    have HFL : Hid ((sortK d k).length = k) := Lib.hid (HSF.out k hk).1
    have HOWN := Lib.hid hown
    have HKW := Lib.hid hkw
    have HFI := Lib.hid hfi
    have BR := Lib.hid (B2.out.kept hkw)
    have HFC := Lib.hid hfc
    rw [HFL.out] at HOWN HFC ⊢
    clear hown hkw hfi hfc
    obtain ⟨q0, q1, q2⟩ := BR.out.b
    have qb := lt_of_cell q0
    by_cases hlt : k < n
    · have hki : decide ((k : Int) < o.N) = true := decide_eq_true (by have := HNI.out; omega)
      have HLT := Lib.hid hlt
      obtain ⟨p, hpk, hpn, -⟩ := (HSF.out k hk).step (by rw [HDN.out]; exact hlt)
      have HPK := Lib.hid hpk
      clear hpk hpn
      go_wp2
      clear q0 q1 q2 qb hki hlt hk
      obtain ⟨B, off, rfl, -⟩ := BR.out.l 0 (by rw [HDN.out]; have := HLT.out; omega)
      have HDY : Hid (∀ i, (h : i < d.length) → wr.cell? ⟨B, off + i, none⟩ = some (.int .i64 d[i])) := Lib.hid fun i h => by
        obtain ⟨B', off', e, hcx⟩ := BR.out.l i h
        cases e
        exact hcx
      go_loop [10, 63] (fun m i => ∃ j : Nat, j ≤ n ∧ i = .int .i64 j ∧ m = .int .i64 (pickK d (sortK d k) j)) (fun _ i => n - (intOf i).toNat)
      case atStart => exact ⟨0, Nat.zero_le _, rfl, rfl⟩
      case round =>
        obtain ⟨j, hj, rfl, rfl⟩ := hrel
        by_cases hjn : j < n
        · have hdj := HDY.out j (by rw [HDN.out]; exact hjn)
          have HGJ : Hid (d.getD j 0 = d[j]'(by rw [HDN.out]; exact hjn)) := Lib.hid (getD_mem (by rw [HDN.out]; exact hjn))
          have HPS := Lib.hid (pickK_succ d (sortK d k) j)
          have HJN := Lib.hid hjn
          have HPF := Lib.hid (pickK_facts d (sortK d k) j)
          generalize d[j]'(by rw [HDN.out]; exact hjn) = x at *
          generalize pickK d (sortK d k) j = m at *
          go_wp2
          clear hdj
          have hk24 := HLT.out
          go_loop [13, 70] (fun kn i => ∃ m : Nat, m ≤ k ∧ i = .int .i64 m ∧ kn = .bool (decide ((j : Int) ∈ (sortK d k).take m))) (fun _ i => k - (intOf i).toNat)
          case atStart => exact ⟨0, Nat.zero_le _, rfl, by simp⟩
          case round =>
            obtain ⟨i, hi, rfl, rfl⟩ := hrel
            by_cases hik : i < k
            · obtain ⟨Bs, offs, rfl, hcx⟩ := HFI.out i (by rw [HFL.out]; exact hik)
              have HTK : Hid (decide ((j : Int) ∈ (sortK d k).take (i + 1)) = (decide ((j : Int) ∈ (sortK d k).take i) || ((j : Int) == (sortK d k)[i]'(by rw [HFL.out]; exact hik)))) := Lib.hid (by
                rw [List.take_succ_eq_append_getElem (by rw [HFL.out]; exact hik), Bool.eq_iff_iff]
                simp only [List.mem_append, List.mem_singleton, decide_eq_true_eq, Bool.or_eq_true, beq_iff_eq])
              generalize (sortK d k)[i]'(by rw [HFL.out]; exact hik) = y at *
              generalize decide ((j : Int) ∈ (sortK d k).take i) = kn at *
              cases kn
              · go_wp2
                go_round
                case measure => simp [intOf] <;> omega
                case rel => exact ⟨i + 1, hik, by go_num, by rw [HTK.out]; rfl⟩
              · go_wp2
                go_round
                case measure => simp [intOf] <;> omega
                case rel => exact ⟨i + 1, hik, by go_num, by rw [HTK.out]; rfl⟩
            · obtain rfl : i = k := by omega
              have HTA : Hid (decide ((j : Int) ∈ (sortK d i).take i) = decide ((j : Int) ∈ sortK d i)) := Lib.hid (by rw [List.take_of_length_le (by rw [HFL.out]; exact Nat.le_refl _)])
              rw [HTA.out]
              clear HTA
              by_cases hm : (j : Int) ∈ sortK d i
              · have e1 : decide ((j : Int) ∈ sortK d i) = true := decide_eq_true hm
                have HP2 : Hid (pickK d (sortK d i) (j + 1) = m) := Lib.hid (by rw [HPS.out]; unfold pickS; rw [if_neg (fun h => h.1 hm)])
                rw [e1]
                clear hm e1 hi hik
                go_wp2
                go_round
                case measure => simp [intOf] <;> omega
                case rel => exact ⟨j + 1, HJN.out, by go_num, by rw [HP2.out]⟩
              · have e1 : decide ((j : Int) ∈ sortK d i) = false := decide_eq_false hm
                rw [e1]
                by_cases hm0 : m < 0
                · have HP2 : Hid (pickK d (sortK d i) (j + 1) = (j : Int)) := Lib.hid (by rw [HPS.out]; unfold pickS; rw [if_pos ⟨hm, .inl hm0⟩])
                  have e2 : decide (m < 0) = true := decide_eq_true hm0
                  clear hm e1 hi hik hm0
                  go_wp2
                  go_round
                  case measure => simp [intOf] <;> omega
                  case rel => exact ⟨j + 1, HJN.out, by go_num, by rw [HP2.out]⟩
                · obtain ⟨r, hr1, rfl, -, -⟩ := HPF.out.resolve_left (fun h => hm0 (by omega))
                  have hrd : r < d.length := by rw [HDN.out]; have := HJN.out; omega
                  have hcr := HDY.out r hrd
                  have hgr := getD_mem hrd
                  have e2 : decide ((r : Int) < 0) = false := decide_eq_false hm0
                  have HPP : Hid (pickK d (sortK d i) (j + 1) = if x < d[r] then (j : Int) else (r : Int)) := Lib.hid (by
                    rw [HPS.out]; unfold pickS
                    rw [Int.toNat_natCast, HGJ.out, hgr]
                    by_cases hx : x < d[r]
                    · rw [if_pos ⟨hm, .inr hx⟩, if_pos hx]
                    · rw [if_neg (fun h => hx (h.2.resolve_left hm0)), if_neg hx])
                  have hrn : r < n := by have := HJN.out; omega
                  generalize d[r] = z at *
                  clear hm e1 hi hik hm0 hgr hrd
                  by_cases hx : x < z
                  · have e3 : decide (x < z) = true := decide_eq_true hx
                    rw [if_pos hx] at HPP
                    clear hx
                    go_wp2
                    go_round
                    case measure => simp [intOf] <;> omega
                    case rel => exact ⟨j + 1, HJN.out, by go_num, by rw [HPP.out]⟩
                  · have e3 : decide (x < z) = false := decide_eq_false hx
                    rw [if_neg hx] at HPP
                    clear hx
                    go_wp2
                    go_round
                    case measure => simp [intOf] <;> omega
                    case rel => exact ⟨j + 1, HJN.out, by go_num, by rw [HPP.out]⟩
        · obtain rfl : j = n := by omega
          have e1 : pickK d (sortK d k) j = (p : Int) := by rw [← HPK.out, HDN.out]
          have e2 : decide ((p : Int) < 0) = false := decide_eq_false (by omega)
          rw [e1]
          have HKA := Lib.hid (HKW.out.alloc (Obj.cells #[.int .i64 (p : Int)] 3))
          clear e1 hjn hj
          go_wp2_with (at_builtin; refine append_int _ rfl _ _ rfl w2.heap.size (.slice fo k fc) (sortK d k) rfl (HOWN.out.kept ((Kept.refl _).alloc _)) wr.heap.size 1 (p : Int) rfl (by simp [go_sem]) (by rw [HFL.out]; have := HLT.out; have := H24.out; omega) (by have := HKW.out.size; simp; omega) ?_; intro g' c' w4 hown4 hg4; have HO4 := Lib.hid hown4; have HK4 := Lib.hid ((HKW.out.alloc _).grown hg4 (fun r e => (HOWN.out.lt r e).1)); clear hown4 hg4)
          go_roundw
          case measure => simp only [HFL.out]; have := HLT.out; omega
          case rel => exact ⟨k + 1, HLT.out, by show OwnI _ _ _ (sortK d k ++ [pickK d (sortK d k) d.length]); rw [HPK.out]; exact HO4.out, HK4.out⟩
    · obtain rfl : k = n := by omega
      have hki : decide ((k : Int) < o.N) = false := decide_eq_false (by have := HNI.out; omega)
      have HNG : Hid (decide (o.N > 8) = decide (8 < k)) := Lib.hid (by rw [← HNI.out]; exact decide_eq_decide.2 (by omega))
      clear hlt hk
      go_wp2_with fail
      clear q0 q1 q2 qb hki
      have hF := Days_any o ao bo ca cb dry (sortK d k) fo fc wr BR.out.p HFI.out (by rw [HFL.out]; have := H24.out; omega) (by rw [HFL.out]; exact HFC.out)
      rw [HDR.out, HFL.out] at hF
      refine hF.mono ?_
      clear hF
      rintro e w3 ⟨v, rfl, hnew, hk⟩
      obtain ⟨do_, dc, rfl, -, hdi, -⟩ := hnew
      have HD3 := Lib.hid hdi
      have B3 := Lib.hid (BR.out.kept hk)
      rw [HDL.out]
      clear hdi hk HFI HOWN HKW BR
      obtain ⟨q0, q1, q2⟩ := B3.out.b
      have qb := lt_of_cell q0
      go_wp2_with fail
      clear q0 q1 q2 qb
      have hF := CheckDays_any o ao bo ca cb dry D do_ dc w3 B3.out.p HD3.out (by rw [HDL.out]; have := H24.out; omega)
      rw [HDC.out, HDL.out] at hF
      refine hF.mono ?_
      clear hF
      rintro e w4 ⟨rfl, hk⟩
      have HD4 := Lib.hid (HD3.out.kept hk)
      have B4 := Lib.hid (B3.out.kept hk)
      have hne : ((k : Int) != (k : Int)) = false := by simp
      clear hk B3 HD3
      go_wp2
      clear hne
      go_loopw [136] (fun i wr => ∃ j : Nat, j ≤ k ∧ i = .int .i64 j ∧ Kept w4 wr) (fun i _ => k - (intOf i).toNat)
      case atStart => exact ⟨0, Nat.zero_le _, rfl, Kept.refl _⟩
      case round =>
        obtain ⟨j, hj, rfl, hkw⟩ := hrel
        have HKW := Lib.hid hkw
        clear hkw
        by_cases hjk : j < k
        · have hjd : j < d.length := by rw [HDN.out]; exact hjk
          have hjD : j < D.length := by rw [HDL.out]; exact hjk
          have hle := HSD.out j hjk
          rw [getD_mem hjd, getD_mem hjD] at hle
          obtain ⟨B1, off1, rfl, hc1⟩ := (HD4.out.kept HKW.out) j hjD
          obtain ⟨B2, off2, rfl, hc2⟩ := (B4.out.l.kept HKW.out) j hjd
          generalize D[j] = x at *
          generalize d[j] = y at *
          have hgt : decide (x > y) = false := decide_eq_false (by omega)
          clear hjd hjD hle
          go_wp2
          refine region_tail 8 (by kernel_rfl) (by kernel_rfl) ?_
          simp only [List.take_succ_cons, List.take_zero, List.drop_succ_cons, List.drop_zero]
          iterate 8
            with_reducible refine wpStill_want ?_ (fun K hK => ?_)
            · rfl
            go_simp
            refine hK _ ?_
            clear hK K
          with_reducible refine wpStill_nil ?_
          go_wp2
          go_roundw
          case measure => simp [intOf] <;> omega
          case rel => exact ⟨j + 1, by omega, by go_num, HKW.out.drew⟩
        · obtain rfl : j = k := by omega
          have B5 := Lib.hid (B4.out.kept HKW.out)
          have HD5 := Lib.hid (HD4.out.kept HKW.out)
          clear hj hjk HKW B4 HD4
          obtain ⟨q0, q1, q2⟩ := B5.out.b
          have qb := lt_of_cell q0
          go_wp2_with fail
          clear q0 q1 q2 qb
          by_cases h8 : 8 < j
          · have hN8 := HNG.out
            rw [decide_eq_true h8] at hN8
            refine (HW8.out h8 wr B5.out.p).mono ?_
            clear h8
            rintro e w6 ⟨rfl, hk⟩
            have B6 := Lib.hid (B5.out.kept hk)
            clear hk B5 HD5
            obtain ⟨q0, q1, q2⟩ := B6.out.b
            have qb := lt_of_cell q0
            go_wp2_with fail
            refine (alive_any _).mono ?_
            rintro e w7 ⟨rfl, hk⟩
            have HK7 := Lib.hid ((B6.out.k.alloc _).trans hk)
            clear hk q0 q1 q2 qb hN8
            go_wp2
            go_ret
            exact ⟨rfl, HK7.out⟩
          · have hN8 := HNG.out
            rw [decide_eq_false h8] at hN8
            refine (HWA.out (by omega) wr B5.out.p).mono ?_
            clear h8
            rintro e w6 ⟨lo0, n0, c0, lo1, c1, d1, rfl, hi1, hlen1, hcd1, hlast, hk⟩
            have B6 := Lib.hid (B5.out.kept hk)
            have HD6 := Lib.hid (HD5.out.kept hk)
            have HI1 := Lib.hid hi1
            have HL1 := Lib.hid hlen1
            have HC1 := Lib.hid hcd1
            have hla : decide (lastK d1 d1.length ≤ lastK D D.length) = true := decide_eq_true hlast
            have HLA := Lib.hid hla
            clear hk B5 HD5 hi1 hlen1 hcd1 hlast hla
            obtain ⟨q0, q1, q2⟩ := B6.out.b
            have qb := lt_of_cell q0
            go_wp2_with fail
            clear q0 q1 q2 qb hN8
            have hK : Kept w6 (w6.alloc (.cells #[.slice lo0 n0 c0, .slice lo1 d1.length c1] 33)) := (Kept.refl _).alloc _
            have hX : (w6.alloc (.cells #[.slice lo0 n0 c0, .slice lo1 d1.length c1] 33)).cell? ⟨w6.heap.size, 1, none⟩ = some (.slice lo1 d1.length c1) := by simp [go_sem]
            obtain ⟨tb, htb⟩ : ∃ tb, w6.heap.size = tb := ⟨_, rfl⟩
            rw [htb] at hX ⊢
            generalize w6.alloc (.cells #[.slice lo0 n0 c0, .slice lo1 d1.length c1] 33) = w7 at *
            have B7 := Lib.hid (B6.out.kept hK)
            have HD7 := Lib.hid (HD6.out.kept hK)
            have HI7 := Lib.hid (HI1.out.kept hK)
            have HX7 := Lib.hid hX
            clear hK hX htb B6 HD6 HI1
            have hF := CheckDays_any o ao bo ca cb dry d1 lo1 c1 w7 B7.out.p HI7.out (by have := HL1.out; omega)
            rw [HC1.out] at hF
            refine hF.mono ?_
            clear hF
            rintro e w8 ⟨rfl, hk⟩
            have B8 := Lib.hid (B7.out.kept hk)
            have HD8 := Lib.hid (HD7.out.kept hk)
            have HI8 := Lib.hid (HI7.out.kept hk)
            have HX8 := Lib.hid (hk.cell HX7.out)
            clear hk B7 HD7 HI7 HX7
            go_wp2_with fail
            refine (alive_any w8).mono ?_
            rintro e w9 ⟨rfl, hk⟩
            have B9 := Lib.hid (B8.out.kept hk)
            have HD9 := Lib.hid (HD8.out.kept hk)
            have HI9 := Lib.hid (HI8.out.kept hk)
            have hx := hk.cell HX8.out
            have hxb := lt_of_cell hx
            clear hk B8 HD8 HI8 HX8
            go_wp2_with fail
            refine (last_any d1 lo1 c1 w9 HI9.out (by have := HL1.out; omega)).mono ?_
            rintro e w10 ⟨rfl, rfl⟩
            go_wp2_with fail
            clear hx hxb
            have hF := last_any D do_ dc w9 HD9.out (by rw [HDL.out]; have := H24.out; omega)
            have hla := HLA.out
            rw [HDL.out] at hF hla
            refine hF.mono ?_
            clear hF
            rintro e w11 ⟨rfl, rfl⟩
            go_wp2
            go_ret
            exact ⟨rfl, B9.out.k⟩

theorem OrderEarliest_any (o : Prob) (ao bo : Option Addr) (ca cb : Nat) (dry : Int) (d : List Int) (lo : Option Addr) (c : Nat) (w : World) (hA : Pairs w ao o.arcs) (hB : Pairs w bo o.near) (hl : Ints w lo d) :
    Calls Try.prog 9 #[probV o ao ca bo cb, .int .i64 dry, .slice lo d.length c] w (Gives (.bool true) w) := by
  have ho : slimB o = true → IsProb w o ao bo := fun h => by
    unfold slimB at h
    simp at h
    exact ⟨hA, hB, by omega, by omega⟩
  by_cases hs : slimB o = false
  · exact OrderEarliest_wide o ao bo ca cb dry d lo c w ho hl (.inl hs)
  · have hs : slimB o = true := by simpa using hs
    by_cases h24 : 24 < d.length
    · exact OrderEarliest_wide o ao bo ca cb dry d lo c w ho hl (.inr (.inl h24))
    · by_cases hc : chk o = 0 ∧ (0 ≤ dry ∧ dry ≤ 30) ∧ keptB (webOf o) dry d = true
      · exact OrderEarliest_main o ao bo ca cb dry d lo c w (ho hs) hl hs (by omega) hc.1 hc.2.1 hc.2.2
      · refine OrderEarliest_wide o ao bo ca cb dry d lo c w ho hl (.inr (.inr ?_))
        unfold CheckDaysR
        by_cases h1 : chk o = 0
        · rw [if_pos h1]
          by_cases h2 : 0 ≤ dry ∧ dry ≤ 30
          · rw [if_pos h2]
            refine .inr ?_
            cases h3 : keptB (webOf o) dry d
            · rfl
            · exact absurd ⟨h1, h2, h3⟩ hc
          · rw [if_neg h2]; exact .inr rfl
        · rw [if_neg h1]; exact .inr rfl
end Go.Proofs.Yteljjkghjbofnaa
