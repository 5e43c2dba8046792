/- ref.Wait. -/
import Derived.Test.YteljjkghjbofnaaTr
set_option maxRecDepth 100000
namespace Go.Proofs.Yteljjkghjbofnaa
open Go Go.Proofs Go.RowKit
attribute [local go_sem] Oper.semAt_some

theorem Ints.fr {X Y : World} {bx : Nat} {ao : Option Addr} {l : List Int} (h : Ints X ao l) (hf : FrX X Y bx) (hne : ∀ ad, ao = some ad → bx < ad.block) : Ints Y ao l := fun i hi => by
  obtain ⟨B, off, e, hc⟩ := h i hi
  have : bx < B := hne _ e
  exact ⟨B, off, e, hf.cell _ _ _ (by omega) hc⟩
/-- A schedule in a variable. -/
structure SBox (X : World) (b : Nat) (v1 v2 : Value) : Prop where
  c0 : X.cell? ⟨b, 0, none⟩ = some v1
  c1 : X.cell? ⟨b, 1, none⟩ = some v2
  fz : ∀ o, X.frozen? ⟨b, o, none⟩ = false
theorem SBox.kept {X Y : World} {b : Nat} {v1 v2 : Value} (h : SBox X b v1 v2) (hk : Kept X Y) : SBox Y b v1 v2 :=
  ⟨hk.cell h.c0, hk.cell h.c1, fun o => (hk.cells.2 b o (lt_of_cell h.c0)).trans (h.fz o)⟩
theorem SBox.new (X : World) (v1 v2 : Value) : SBox (X.alloc (.cells #[v1, v2] 33)) X.heap.size v1 v2 := ⟨by simp [go_sem], by simp [go_sem], fun o => by simp [go_sem]⟩
theorem SBox.set {X : World} {b : Nat} {v1 v2 : Value} (h : SBox X b v1 v2) (u1 u2 : Value) : SBox ((X.setCell ⟨b, 0, none⟩ u1).setCell ⟨b, 1, none⟩ u2) b u1 u2 := by
  have h0 := cell_set_same (u := u1) h.c0
  have h1 := cell_set_off (o := 0) (u := u1) h.c1 (by decide)
  exact ⟨cell_set_off (o := 1) (u := u2) h0 (by decide), cell_set_same (u := u2) h1, fun o => by rw [World.frozen?_setCell, World.frozen?_setCell]; exact h.fz o⟩
theorem FrX.set {X Y : World} {bx : Nat} (h : FrX X Y bx) (o' : Nat) (u : Value) : FrX X (Y.setCell ⟨bx, o', none⟩ u) bx :=
  h.step (Kept.refl _) (row := none) ⟨rfl, rfl, rfl, Nat.le_refl _, fun _ _ _ => rfl⟩ (fun r e => by cases e) o' u
theorem SBox.fr {X Y : World} {bx b : Nat} {v1 v2 : Value} (h : SBox X b v1 v2) (hf : FrX X Y bx) (hne : b ≠ bx) : SBox Y b v1 v2 :=
  ⟨hf.cell _ _ _ hne h.c0, hf.cell _ _ _ hne h.c1, fun o => (hf.fz b o (lt_of_cell h.c0) hne).trans (h.fz o)⟩

section
variable {W : Web} {dry : Int}
theorem best_some : ∀ (t : List (List Int)) (b : Option (List Int)) (l : List Int), ∃ x, (l :: t).foldl (bestStep W dry) b = some x ∧ (x ∈ l :: t ∨ b = some x)
  | [], b, l => by
    cases b with
    | none => exact ⟨l, rfl, .inl (by simp)⟩
    | some y =>
      by_cases h : endOf W dry l < endOf W dry y
      · exact ⟨l, if_pos h, .inl (by simp)⟩
      · exact ⟨y, if_neg h, .inr rfl⟩
  | m :: t, b, l => by
    obtain ⟨x, h1, h2⟩ := best_some t (bestStep W dry b l) m
    refine ⟨x, h1, ?_⟩
    rcases h2 with h2 | h2
    · exact .inl (List.mem_cons_of_mem _ h2)
    · cases b with
      | none => cases h2; exact .inl (by simp)
      | some y =>
        by_cases h : endOf W dry l < endOf W dry y
        · have e : bestStep W dry (some y) l = some l := if_pos h
          rw [e] at h2; cases h2; exact .inl (by simp)
        · have e : bestStep W dry (some y) l = some y := if_neg h
          rw [e] at h2; exact .inr h2
theorem best_take {ls : List (List Int)} {k : Nat} (h0 : 0 < k) (hk : k ≤ ls.length) : ∃ x, bestOf W dry (ls.take k) = some x ∧ x ∈ ls := by
  obtain ⟨l, t, e⟩ := List.exists_cons_of_length_pos (l := ls.take k) (by rw [List.length_take]; omega)
  obtain ⟨x, h1, h2⟩ := best_some (W := W) (dry := dry) t none l
  rw [← e] at h1 h2
  exact ⟨x, h1, List.mem_of_mem_take (h2.resolve_right (by simp))⟩
theorem best_succ {ls : List (List Int)} {k : Nat} (h : k < ls.length) : bestOf W dry (ls.take (k + 1)) = bestStep W dry (bestOf W dry (ls.take k)) ls[k] := by
  unfold bestOf
  rw [List.take_succ_eq_append_getElem h, List.foldl_append]; rfl
end

set_option maxHeartbeats 4000000 in
theorem RWait_any (o : Prob) (ao bo : Option Addr) (ca cb : Nat) (dry : Int) (w : World) (ho : IsProb w o ao bo) :
    Calls Try.prog 29 #[probV o ao ca bo cb, .int .i64 dry] w (WaitP (WaitR o dry) w) := by
  have HO := Lib.hid ho
  clear ho
  obtain ⟨R, hR⟩ : ∃ R, WaitR o dry = R := ⟨_, rfl⟩
  rw [hR]
  have HR := Lib.hid hR
  clear hR
  go_enter Try.func29, Try.ntmps29
  go_wp2_with fail
  obtain ⟨w0, e0, hk0, hb0, hs0⟩ := alloc_prob w o.N o.arcs o.near ao ca bo cb
  rw [e0, hs0]
  clear e0
  have hs4 := SBox.new w0 (.slice none 0 0) (.slice none 0 0)
  have hk1 : Kept w (w0.alloc (.cells #[.slice none 0 0, .slice none 0 0] 33)) := hk0.alloc _
  have hb1 := hb0.kept ((Kept.refl _).alloc (.cells #[.slice none 0 0, .slice none 0 0] 33))
  have hg4 : w.heap.size ≤ w0.heap.size := hk0.size
  generalize w0.alloc (.cells #[.slice none 0 0, .slice none 0 0] 33) = w1 at *
  obtain ⟨g4, hg4'⟩ : ∃ g4, w0.heap.size = g4 := ⟨_, rfl⟩
  rw [hg4'] at hs4 hg4 hs0 ⊢
  have HS1 := Lib.hid hs4
  have HK1 := Lib.hid hk1
  have HB1 := Lib.hid hb1
  have HG4 := Lib.hid hg4
  have HGW : Hid (w.heap.size < g4) := Lib.hid (by omega)
  clear hs4 hk1 hb1 hg4 hs0 hk0 hb0 hg4'
  refine (RCheck_any o ao bo ca cb w1 (HO.out.kept HK1.out)).mono ?_
  rintro e w2 ⟨rfl, hk⟩
  have HK2 := Lib.hid (HK1.out.trans hk)
  have HB2 := Lib.hid (HB1.out.kept hk)
  have HS2 := Lib.hid (HS1.out.kept hk)
  clear hk HK1 HB1 HS1
  by_cases hc : chk o = 0
  · have HC := Lib.hid hc
    have HNI := Lib.hid (webOf_nI hc)
    rw [hc]
    by_cases hd : 0 ≤ dry ∧ dry ≤ 30
    · have HD := Lib.hid hd
      have e1 : decide (dry < 0) = false := decide_eq_false (by omega)
      have e2 : decide (dry > 30) = false := decide_eq_false (by omega)
      clear hd
      obtain ⟨q0, q1, q2⟩ := HB2.out
      have qb := lt_of_cell q0
      by_cases h8 : 8 < (webOf o).n
      · have HX : Hid (((([], []), 2) : (List Int × List Int) × Int) = R) := Lib.hid (by rw [← HR.out]; unfold WaitR; rw [if_pos HC.out, if_pos HD.out, if_pos h8])
        have e3 : decide (o.N > 8) = true := decide_eq_true (by have := HNI.out; omega)
        clear h8 hc
        have HP9 := Lib.hid (HS2.out.set (.slice none 0 0) (.slice none 0 0))
        have f0 := HS2.out.c0
        have f1 := HS2.out.c1
        have f2 := HS2.out.fz 0
        have f3 := HS2.out.fz 1
        have pb := lt_of_cell f0
        go_wp2
        refine bodyPost_ret (results_cell_tmp rfl _ _ ⟨g4, 0, none⟩ rfl _ (load33 HP9.out.c0 HP9.out.c1)) rfl ?_
        rw [← HX.out]
        exact ⟨none, 0, none, 0, rfl, Ints.nil _ _, Ints.nil _ _, (HK2.out.setCell (p := ⟨g4, 0, none⟩) HG4.out _).setCell (p := ⟨g4, 1, none⟩) HG4.out _⟩
      · have e3 : decide (o.N > 8) = false := decide_eq_false (by have := HNI.out; omega)
        have HN8 : Hid ((webOf o).n ≤ 8) := Lib.hid (by omega)
        clear h8 hc
        go_wp2_with fail
        clear q0 q1 q2 qb
        refine (Rcircular_any o ao bo ca cb w2 (HO.out.kept HK2.out) HC.out).mono ?_
        rintro e w3 ⟨rfl, hk⟩
        have HK3 := Lib.hid (HK2.out.trans hk)
        have HB3 := Lib.hid (HB2.out.kept hk)
        have HS3 := Lib.hid (HS2.out.kept hk)
        clear hk HK2 HB2 HS2
        cases hcb : circB (webOf o)
        case true =>
          have HX : Hid (((([], []), 50) : (List Int × List Int) × Int) = R) := Lib.hid (by rw [← HR.out]; unfold WaitR; rw [if_pos HC.out, if_pos HD.out, if_neg (by have := HN8.out; omega), if_pos hcb])
          clear hcb
          have HP9 := Lib.hid (HS3.out.set (.slice none 0 0) (.slice none 0 0))
          have f0 := HS3.out.c0
          have f1 := HS3.out.c1
          have f2 := HS3.out.fz 0
          have f3 := HS3.out.fz 1
          have pb := lt_of_cell f0
          go_wp2
          refine bodyPost_ret (results_cell_tmp rfl _ _ ⟨g4, 0, none⟩ rfl _ (load33 HP9.out.c0 HP9.out.c1)) rfl ?_
          rw [← HX.out]
          exact ⟨none, 0, none, 0, rfl, Ints.nil _ _, Ints.nil _ _, (HK3.out.setCell (p := ⟨g4, 0, none⟩) HG4.out _).setCell (p := ⟨g4, 1, none⟩) HG4.out _⟩
        case false =>
          have HX : Hid ((bestPair (webOf o) dry (bestOf (webOf o) dry (ordersL (webOf o))), (0 : Int)) = R) := Lib.hid (by rw [← HR.out]; unfold WaitR; rw [if_pos HC.out, if_pos HD.out, if_neg (by have := HN8.out; omega), if_neg (by rw [hcb]; simp)])
          clear hcb
          obtain ⟨q0, q1, q2⟩ := HB3.out
          have qb := lt_of_cell q0
          go_wp2_with fail
          clear q0 q1 q2 qb e1 e2 e3
          have hs8 := SBox.new w3 (.slice none 0 0) (.slice none 0 0)
          have hk5 : Kept w3 (w3.alloc (.cells #[.slice none 0 0, .slice none 0 0] 33)) := (Kept.refl _).alloc _
          have hl8 : w3.heap.size < (w3.alloc (.cells #[.slice none 0 0, .slice none 0 0] 33)).heap.size := by simp
          generalize w3.alloc (.cells #[.slice none 0 0, .slice none 0 0] 33) = w5 at *
          obtain ⟨g8, hg8⟩ : ∃ g8, w3.heap.size = g8 := ⟨_, rfl⟩
          rw [hg8] at hs8 hl8 ⊢
          have HL8 := Lib.hid hl8
          have HG8 : Hid (w.heap.size < g8 ∧ g4 < g8) := Lib.hid ⟨by rw [← hg8]; exact lt_of_cell HB3.out.1, by rw [← hg8]; exact lt_of_cell HS3.out.c0⟩
          have HS8 := Lib.hid hs8
          have HK5 := Lib.hid (HK3.out.trans hk5)
          have HB5 := Lib.hid (HB3.out.kept hk5)
          have HS5 := Lib.hid (HS3.out.kept hk5)
          clear hs8 hk5 hl8 hg8 HK3 HB3 HS3
          refine (RAll_any o ao bo ca cb w5 (HO.out.kept HK5.out) HC.out HN8.out).mono ?_
          rintro e w6 ⟨a6, c6, ss, rfl, hsl, ha6, hls, hap, hk⟩
          have HK6 := Lib.hid (HK5.out.trans hk)
          have HB6 := Lib.hid (HB5.out.kept hk)
          have HS6 := Lib.hid (HS5.out.kept hk)
          have HS86 := Lib.hid (HS8.out.kept hk)
          have HSL : Hid (∀ X, FrX w6 X g8 → SLs X a6 ss) := Lib.hid fun X hf i hi => by
            obtain ⟨B, e, hcx⟩ := hsl i hi
            have : w5.heap.size ≤ B := ha6 _ e
            exact ⟨B, e, hf.cell _ _ _ (by have := HL8.out; omega) hcx⟩
          have HLI : Hid (∀ X, FrX w6 X g8 → Lists X ss (ordersL (webOf o))) := Lib.hid fun X hf => ⟨hls.1, fun i h1 h2 => ⟨(hls.2 i h1 h2).1, fun j hj => by
            obtain ⟨B, off, e, hcx⟩ := (hls.2 i h1 h2).2 j hj
            have : w5.heap.size ≤ B := hap _ (List.getElem_mem h2) _ e
            exact ⟨B, off, e, hf.cell _ _ _ (by have := HL8.out; omega) hcx⟩⟩⟩
          have HAB : Hid (∀ s ∈ ss, ∀ ad, s.1 = some ad → g8 < ad.block) := Lib.hid fun s hs ad e => by have := hap s hs ad e; have := HL8.out; omega
          clear hk hsl ha6 hls hap HK5 HB5 HS5 HS8
          have HBX : Hid (∀ X, FrX w6 X g8 → ProbBox X w.heap.size o ao ca bo cb) := Lib.hid fun X hf => by
            obtain ⟨x0, x1, x2⟩ := HB6.out
            have hne : w.heap.size ≠ g8 := by have := HG8.out; omega
            exact ⟨hf.cell _ _ _ hne x0, hf.cell _ _ _ hne x1, hf.cell _ _ _ hne x2⟩
          have HPR : Hid (∀ X, FrX w6 X g8 → IsProb X o ao bo) := Lib.hid fun X hf => by
            have hne : ∀ B, B < w.heap.size → B ≠ g8 := fun B h => by have := HG8.out; omega
            refine ⟨fun i hi => ?_, fun i hi => ?_, HO.out.la, HO.out.lb⟩
            · obtain ⟨B, off, e, c0, c1⟩ := HO.out.arcs i hi
              exact ⟨B, off, e, hf.cell _ _ _ (hne B (lt_of_cell c0)) (HK6.out.cell c0), hf.cell _ _ _ (hne B (lt_of_cell c0)) (HK6.out.cell c1)⟩
            · obtain ⟨B, off, e, c0, c1⟩ := HO.out.near i hi
              exact ⟨B, off, e, hf.cell _ _ _ (hne B (lt_of_cell c0)) (HK6.out.cell c0), hf.cell _ _ _ (hne B (lt_of_cell c0)) (HK6.out.cell c1)⟩
          have HOD : Hid (∀ x ∈ ordersL (webOf o), orderedB (webOf o) x = true) := Lib.hid fun x hx => ordersL_sound (webOf_n HC.out) hx
          have HSLN : Hid (ss.length = (ordersL (webOf o)).length) := Lib.hid (HLI.out w6 (FrX.refl _ _)).1
          have HMX : Hid (ss.length ≤ 134217728 * 8) := Lib.hid (by
            rw [HSLN.out]
            refine Nat.le_trans (orders_len HN8.out _ _ _) ?_
            exact Nat.le_trans (Nat.pow_le_pow_right (by decide) (show (webOf o).n + 1 ≤ 9 by have := HN8.out; omega)) (by decide))
          go_wp2
          go_loopw [10] (fun i wr => ∃ (k : Nat) (a1 a2 : Option Addr) (c1 c2 : Nat), k ≤ ss.length ∧ i = .int .i64 k ∧ Kept w wr ∧ FrX w6 wr g8 ∧
            SBox wr g8 (.slice a1 (bestPair (webOf o) dry (bestOf (webOf o) dry ((ordersL (webOf o)).take k))).1.length c1) (.slice a2 (bestPair (webOf o) dry (bestOf (webOf o) dry ((ordersL (webOf o)).take k))).2.length c2) ∧
            Ints wr a1 (bestPair (webOf o) dry (bestOf (webOf o) dry ((ordersL (webOf o)).take k))).1 ∧ Ints wr a2 (bestPair (webOf o) dry (bestOf (webOf o) dry ((ordersL (webOf o)).take k))).2 ∧ (∀ ad, a1 = some ad → g8 < ad.block) ∧ (∀ ad, a2 = some ad → g8 < ad.block)) (fun i _ => ss.length - (intOf i).toNat)
          case atStart => exact ⟨0, none, none, 0, 0, Nat.zero_le _, rfl, HK6.out, FrX.refl _ _, HS86.out, Ints.nil _ _, Ints.nil _ _, fun ad h => (by cases h), fun ad h => (by cases h)⟩
          case round =>
            obtain ⟨k, a1, a2, c1, c2, hk, rfl, hkw, hfr, hsb, hi1, hi2, hd1, hd2⟩ := hrel
            have HKW := Lib.hid hkw
            have HFR := Lib.hid hfr
            have HSB := Lib.hid hsb
            have HI1 := Lib.hid hi1
            have HI2 := Lib.hid hi2
            have HD1 := Lib.hid hd1
            have HD2 := Lib.hid hd2
            have HBR := Lib.hid (HBX.out _ hfr)
            clear hkw hfr hsb hi1 hi2 hd1 hd2
            have hmx := HMX.out
            by_cases hkm : k < ss.length
            · have hkl : k < (ordersL (webOf o)).length := by rw [← HSLN.out]; exact hkm
              obtain ⟨B, rfl, hcx⟩ := HSL.out _ HFR.out k hkm
              have hll := (HLI.out _ HFR.out).2 k hkl hkm
              have HBS := Lib.hid (best_succ (W := webOf o) (dry := dry) hkl)
              have HOX := Lib.hid (HOD.out _ (List.getElem_mem hkl))
              have HSB2 : Hid (∀ ad, (ss[k]).1 = some ad → g8 < ad.block) := Lib.hid (HAB.out _ (List.getElem_mem hkm))
              have hx0 := HOX.out
              obtain ⟨y1, y2, y3, y4⟩ := orderedB_iff.1 hx0
              obtain ⟨hln, hli⟩ := hll
              rw [hln] at hcx
              have hK : ∀ X, Kept wr X → FrX w6 X g8 := fun X h => HFR.out.kept h
              have HLK := Lib.hid hli
              have hF := fun (X : World) (h : Kept wr X) => Rdays_any o ao bo ca cb dry (ordersL (webOf o))[k] (ss[k]).1 (ss[k]).2.2 X (HPR.out _ (hK X h)) (hli.kept h) HC.out y1 y2 HD.out.1 HD.out.2
              have HF := Lib.hid hF
              have HY1 := Lib.hid y1
              clear hF y1 y2 y3 y4 hln hli hK hx0
              obtain ⟨q0, q1, q2⟩ := HBR.out
              have qb := lt_of_cell q0
              go_upto_region 16 with fail
              go_cut [11] (fun s11 wx => ∃ g : Nat, s11 = .slice (some ⟨g, 0, none⟩) (webOf o).n (webOf o).n ∧ wr.heap.size ≤ g ∧ Arr wx g (daysOf (webOf o) dry (ordersL (webOf o))[k]) ∧ Kept wr wx)
              case first =>
                go_region_with (go_at_call 92; refine (HF.out _ (Kept.refl _).drew).mono ?_; rintro e w7 ⟨g, rfl, hg, harr, hk7⟩)
                all_goals
                  go_wp2_with fail
                  go_meet
                  exact ⟨g, rfl, hg, harr, (Kept.refl _).drew.trans hk7⟩
              case rest =>
                obtain ⟨g, rfl, hg, harr, hkc⟩ := hcut
                have HG : Hid (wr.heap.size ≤ g) := Lib.hid hg
                have HKD := Lib.hid (hkc.drew)
                have HAR := Lib.hid (harr.kept ((Kept.refl _).drew)).ints
                have HG8R : Hid (g8 < wr.heap.size) := Lib.hid (lt_of_cell HSB.out.c0)
                have HSBC := Lib.hid (HSB.out.kept hkc)
                have HCX := Lib.hid (hkc.cell hcx)
                have HDL : Hid ((daysOf (webOf o) dry (ordersL (webOf o))[k]).length = (webOf o).n) := Lib.hid (daysPart_length _ _ _ _)
                have HIK := Lib.hid ((HLK.out.kept hkc).kept (Kept.refl _).drew)
                have HFC : Hid (FrX w6 wc.drew g8) := Lib.hid (HFR.out.kept HKD.out)
                have HKC : Hid (Kept w wc.drew) := Lib.hid (HKW.out.trans HKD.out)
                have HBK := Lib.hid (HSB.out.kept HKD.out)
                have HI1C := Lib.hid (HI1.out.kept HKD.out)
                have HI2C := Lib.hid (HI2.out.kept HKD.out)
                clear hg harr hkc hcx q0 q1 q2 qb HF
                generalize (ordersL (webOf o))[k] = x at *
                generalize ss[k] = sk at *
                have s0 := HSBC.out.c0
                have s1 := HSBC.out.c1
                have sf0 := HSBC.out.fz 0
                have sf1 := HSBC.out.fz 1
                have sl := lt_of_cell s0
                have cx := HCX.out
                have HK1 : Hid (k + 1 ≤ ss.length) := Lib.hid hkm
                have hkb : k < 1073741824 := by omega
                have HNEW : Hid (bestOf (webOf o) dry ((ordersL (webOf o)).take (k + 1)) = some x →
                    ∃ (a1 a2 : Option Addr) (c1 c2 : Nat), Kept w ((wc.drew.setCell ⟨g8, 0, none⟩ (.slice sk.1 x.length sk.2.2)).setCell ⟨g8, 1, none⟩ (.slice (some ⟨g, 0, none⟩) (webOf o).n (webOf o).n)) ∧
                      FrX w6 ((wc.drew.setCell ⟨g8, 0, none⟩ (.slice sk.1 x.length sk.2.2)).setCell ⟨g8, 1, none⟩ (.slice (some ⟨g, 0, none⟩) (webOf o).n (webOf o).n)) g8 ∧
                      SBox ((wc.drew.setCell ⟨g8, 0, none⟩ (.slice sk.1 x.length sk.2.2)).setCell ⟨g8, 1, none⟩ (.slice (some ⟨g, 0, none⟩) (webOf o).n (webOf o).n)) g8 (.slice a1 (bestPair (webOf o) dry (bestOf (webOf o) dry ((ordersL (webOf o)).take (k + 1)))).1.length c1) (.slice a2 (bestPair (webOf o) dry (bestOf (webOf o) dry ((ordersL (webOf o)).take (k + 1)))).2.length c2) ∧
                      Ints ((wc.drew.setCell ⟨g8, 0, none⟩ (.slice sk.1 x.length sk.2.2)).setCell ⟨g8, 1, none⟩ (.slice (some ⟨g, 0, none⟩) (webOf o).n (webOf o).n)) a1 (bestPair (webOf o) dry (bestOf (webOf o) dry ((ordersL (webOf o)).take (k + 1)))).1 ∧
                      Ints ((wc.drew.setCell ⟨g8, 0, none⟩ (.slice sk.1 x.length sk.2.2)).setCell ⟨g8, 1, none⟩ (.slice (some ⟨g, 0, none⟩) (webOf o).n (webOf o).n)) a2 (bestPair (webOf o) dry (bestOf (webOf o) dry ((ordersL (webOf o)).take (k + 1)))).2 ∧
                      (∀ ad, a1 = some ad → g8 < ad.block) ∧ (∀ ad, a2 = some ad → g8 < ad.block)) := Lib.hid (by
                  intro hb
                  rw [hb]
                  have hfx : FrX wc.drew ((wc.drew.setCell ⟨g8, 0, none⟩ (.slice sk.1 x.length sk.2.2)).setCell ⟨g8, 1, none⟩ (.slice (some ⟨g, 0, none⟩) (webOf o).n (webOf o).n)) g8 := ((FrX.refl _ _).set 0 _).set 1 _
                  have hg8 : ∀ ad : Addr, some (⟨g, 0, none⟩ : Addr) = some ad → g8 < ad.block := fun ad h => by cases h; show g8 < g; have := HG8R.out; have := HG.out; omega
                  have hw8 : w.heap.size ≤ g8 := by have := HG8.out; omega
                  refine ⟨sk.1, some ⟨g, 0, none⟩, sk.2.2, (webOf o).n, (HKC.out.setCell (p := ⟨g8, 0, none⟩) hw8 _).setCell (p := ⟨g8, 1, none⟩) hw8 _, (HFC.out.set 0 _).set 1 _, ?_, HIK.out.fr hfx HSB2.out, HAR.out.fr hfx hg8, HSB2.out, hg8⟩
                  show SBox _ g8 (.slice _ x.length _) (.slice _ (daysOf (webOf o) dry x).length _)
                  rw [HDL.out]
                  exact HBK.out.set _ _)
                by_cases hk0 : k = 0
                · subst hk0
                  have HB1 : Hid (bestOf (webOf o) dry ((ordersL (webOf o)).take (0 + 1)) = some x) := Lib.hid (HBS.out.trans rfl)
                  clear hk hkm hkl hkb
                  go_wp2
                  refine region_tail 9 (by kernel_rfl) (by kernel_rfl) ?_
                  simp only [List.take_succ_cons, List.take_zero, List.drop_succ_cons, List.drop_zero]
                  iterate 3
                    with_reducible refine wpStill_want ?_ (fun K hK => ?_)
                    · rfl
                    go_simp
                    refine hK _ ?_
                    clear hK K
                  iterate 6
                    with_reducible refine wpStill_skip ?_ ?_
                    · rfl
                    simp only [Act.put, List.setIfInBounds_toArray, List.set_cons_zero, List.set_cons_succ]
                  with_reducible refine wpStill_nil ?_
                  go_wp2
                  go_roundw
                  case measure => have := HK1.out; simp [intOf] <;> omega
                  case rel =>
                    obtain ⟨b1, b2, d1, d2, t1, t2, t3, t4, t5, t6, t7⟩ := HNEW.out HB1.out
                    exact ⟨1, b1, b2, d1, d2, HK1.out, by go_num, t1, t2, t3, t4, t5, t6, t7⟩
                · have hn0 : 0 < (webOf o).n := by
                    refine Nat.pos_of_ne_zero fun h0 => ?_
                    have e1 : ordersL (webOf o) = [[]] := by unfold ordersL ordersF; rw [if_pos (by simp [h0])]
                    rw [e1] at hkl
                    simp at hkl
                    exact hk0 hkl
                  obtain ⟨y, hby, hym⟩ := best_take (W := webOf o) (dry := dry) (ls := ordersL (webOf o)) (k := k) (by omega) (by omega)
                  have hoy := HOD.out y hym
                  have hly : (daysOf (webOf o) dry y).length = (webOf o).n := daysPart_length _ _ _ _
                  rw [hby] at HSBC HBK HI1C HI2C HBS s0 s1
                  have hF1 := Rlast_any (daysOf (webOf o) dry x) (some ⟨g, 0, none⟩) (webOf o).n wc.drew HAR.out (by rw [HDL.out]; have := HN8.out; omega)
                  rw [last_end (webOf_n HC.out) hn0 HD.out HOX.out, HDL.out] at hF1
                  have hF2 := Rlast_any (daysOf (webOf o) dry y) a2 c2 wc.drew HI2C.out (by rw [hly]; have := HN8.out; omega)
                  rw [last_end (webOf_n HC.out) hn0 HD.out hoy] at hF2
                  have HF1 := Lib.hid hF1
                  have HF2 := Lib.hid hF2
                  have hkz : ((k : Int) == 0) = false := by simp; omega
                  have t1 : wc.cell? ⟨g8, 1, none⟩ = some (.slice a2 (daysOf (webOf o) dry y).length c2) := s1
                  have t0 : wc.cell? ⟨g8, 0, none⟩ = some (.slice a1 y.length c1) := s0
                  have HBS2 : Hid (bestOf (webOf o) dry ((ordersL (webOf o)).take (k + 1)) = if endOf (webOf o) dry x < endOf (webOf o) dry y then some x else some y) := Lib.hid (HBS.out.trans rfl)
                  clear s0 s1 hF1 hF2 hn0 hby hym hoy hly hk hk0 hkm hkl HBS
                  by_cases hlt : endOf (webOf o) dry x < endOf (webOf o) dry y
                  · have HB1 : Hid (bestOf (webOf o) dry ((ordersL (webOf o)).take (k + 1)) = some x) := Lib.hid (by rw [HBS2.out, if_pos hlt])
                    have hde : decide (endOf (webOf o) dry x < endOf (webOf o) dry y) = true := decide_eq_true hlt
                    generalize endOf (webOf o) dry x = ex at *
                    generalize endOf (webOf o) dry y = ey at *
                    clear hlt HBS2
                    go_wp2
                    refine region_tail 9 (by kernel_rfl) (by kernel_rfl) ?_
                    simp only [List.take_succ_cons, List.take_zero, List.drop_succ_cons, List.drop_zero]
                    iterate 4
                      with_reducible refine wpStill_want ?_ (fun K hK => ?_)
                      · rfl
                      go_simp
                      refine hK _ ?_
                      clear hK K
                    still_call Calls_still (HF1.out)
                    iterate 2
                      with_reducible refine wpStill_want ?_ (fun K hK => ?_)
                      · rfl
                      go_simp
                      refine hK _ ?_
                      clear hK K
                    still_call Calls_still (HF2.out)
                    iterate 1
                      with_reducible refine wpStill_want ?_ (fun K hK => ?_)
                      · rfl
                      go_simp
                      refine hK _ ?_
                      clear hK K
                    with_reducible refine wpStill_nil ?_
                    go_wp2
                    go_roundw
                    case measure => have := HK1.out; simp [intOf] <;> omega
                    case rel =>
                      obtain ⟨b1, b2, d1, d2, t1, t2, t3, t4, t5, t6, t7⟩ := HNEW.out HB1.out
                      exact ⟨k + 1, b1, b2, d1, d2, HK1.out, by go_num, t1, t2, t3, t4, t5, t6, t7⟩
                  · have HB1 : Hid (bestOf (webOf o) dry ((ordersL (webOf o)).take (k + 1)) = some y) := Lib.hid (by rw [HBS2.out, if_neg hlt])
                    have hde : decide (endOf (webOf o) dry x < endOf (webOf o) dry y) = false := decide_eq_false hlt
                    generalize endOf (webOf o) dry x = ex at *
                    generalize endOf (webOf o) dry y = ey at *
                    clear hlt HBS2
                    go_wp2
                    refine region_tail 9 (by kernel_rfl) (by kernel_rfl) ?_
                    simp only [List.take_succ_cons, List.take_zero, List.drop_succ_cons, List.drop_zero]
                    iterate 4
                      with_reducible refine wpStill_want ?_ (fun K hK => ?_)
                      · rfl
                      go_simp
                      refine hK _ ?_
                      clear hK K
                    still_call Calls_still (HF1.out)
                    iterate 2
                      with_reducible refine wpStill_want ?_ (fun K hK => ?_)
                      · rfl
                      go_simp
                      refine hK _ ?_
                      clear hK K
                    still_call Calls_still (HF2.out)
                    iterate 1
                      with_reducible refine wpStill_want ?_ (fun K hK => ?_)
                      · rfl
                      go_simp
                      refine hK _ ?_
                      clear hK K
                    with_reducible refine wpStill_nil ?_
                    go_wp2
                    go_roundw
                    case measure => have := HK1.out; simp [intOf] <;> omega
                    case rel => exact ⟨k + 1, a1, a2, c1, c2, HK1.out, by go_num, HKC.out, HFC.out, by rw [HB1.out]; exact HBK.out, by rw [HB1.out]; exact HI1C.out, by rw [HB1.out]; exact HI2C.out, HD1.out, HD2.out⟩
            · obtain rfl : k = ss.length := by omega
              have hT : (ordersL (webOf o)).take ss.length = ordersL (webOf o) := List.take_of_length_le (by rw [HSLN.out]; exact Nat.le_refl _)
              rw [hT] at HSB HI1 HI2
              generalize bestPair (webOf o) dry (bestOf (webOf o) dry (ordersL (webOf o))) = p at *
              have HS4 := Lib.hid (HS6.out.fr HFR.out (by have := HG8.out; omega))
              have HP9 := Lib.hid (HS4.out.set (.slice a1 p.1.length c1) (.slice a2 p.2.length c2))
              have s0 := HSB.out.c0
              have s1 := HSB.out.c1
              have sl := lt_of_cell s0
              have f0 := HS4.out.c0
              have f1 := HS4.out.c1
              have f2 := HS4.out.fz 0
              have f3 := HS4.out.fz 1
              have pb := lt_of_cell f0
              clear hk hkm hmx hT
              go_wp2
              refine bodyPost_ret (results_cell_tmp rfl _ _ ⟨g4, 0, none⟩ rfl _ (load33 HP9.out.c0 HP9.out.c1)) rfl ?_
              rw [← HX.out]
              have hfx : FrX wr ((wr.setCell ⟨g4, 0, none⟩ (.slice a1 p.1.length c1)).setCell ⟨g4, 1, none⟩ (.slice a2 p.2.length c2)) g4 := ((FrX.refl _ _).set 0 _).set 1 _
              exact ⟨a1, c1, a2, c2, rfl, HI1.out.fr hfx (fun ad e => by have := HD1.out ad e; have := HG8.out; omega), HI2.out.fr hfx (fun ad e => by have := HD2.out ad e; have := HG8.out; omega), (HKW.out.setCell (p := ⟨g4, 0, none⟩) HG4.out _).setCell (p := ⟨g4, 1, none⟩) HG4.out _⟩
    · have HX : Hid (((([], []), 1) : (List Int × List Int) × Int) = R) := Lib.hid (by rw [← HR.out]; unfold WaitR; rw [if_pos HC.out, if_neg hd])
      clear hc
      by_cases hd0 : dry < 0
      · have e1 : decide (dry < 0) = true := decide_eq_true hd0
        clear hd hd0
        have HP9 := Lib.hid (HS2.out.set (.slice none 0 0) (.slice none 0 0))
        have f0 := HS2.out.c0
        have f1 := HS2.out.c1
        have f2 := HS2.out.fz 0
        have f3 := HS2.out.fz 1
        have pb := lt_of_cell f0
        go_wp2
        refine bodyPost_ret (results_cell_tmp rfl _ _ ⟨g4, 0, none⟩ rfl _ (load33 HP9.out.c0 HP9.out.c1)) rfl ?_
        rw [← HX.out]
        exact ⟨none, 0, none, 0, rfl, Ints.nil _ _, Ints.nil _ _, (HK2.out.setCell (p := ⟨g4, 0, none⟩) HG4.out _).setCell (p := ⟨g4, 1, none⟩) HG4.out _⟩
      · have e1 : decide (dry < 0) = false := decide_eq_false hd0
        have e2 : decide (dry > 30) = true := decide_eq_true (by omega)
        clear hd hd0
        have HP9 := Lib.hid (HS2.out.set (.slice none 0 0) (.slice none 0 0))
        have f0 := HS2.out.c0
        have f1 := HS2.out.c1
        have f2 := HS2.out.fz 0
        have f3 := HS2.out.fz 1
        have pb := lt_of_cell f0
        go_wp2
        refine bodyPost_ret (results_cell_tmp rfl _ _ ⟨g4, 0, none⟩ rfl _ (load33 HP9.out.c0 HP9.out.c1)) rfl ?_
        rw [← HX.out]
        exact ⟨none, 0, none, 0, rfl, Ints.nil _ _, Ints.nil _ _, (HK2.out.setCell (p := ⟨g4, 0, none⟩) HG4.out _).setCell (p := ⟨g4, 1, none⟩) HG4.out _⟩
  · have HX : Hid (((([], []), chk o) : (List Int × List Int) × Int) = R) := Lib.hid (by rw [← HR.out]; unfold WaitR; rw [if_neg hc])
    have e1 : (chk o != 0) = true := by simp [hc]
    clear hc
    have HP9 := Lib.hid (HS2.out.set (.slice none 0 0) (.slice none 0 0))
    have f0 := HS2.out.c0
    have f1 := HS2.out.c1
    have f2 := HS2.out.fz 0
    have f3 := HS2.out.fz 1
    have pb := lt_of_cell f0
    go_wp2
    refine bodyPost_ret (results_cell_tmp rfl _ _ ⟨g4, 0, none⟩ rfl _ (load33 HP9.out.c0 HP9.out.c1)) rfl ?_
    rw [← HX.out]
    exact ⟨none, 0, none, 0, rfl, Ints.nil _ _, Ints.nil _ _, (HK2.out.setCell (p := ⟨g4, 0, none⟩) HG4.out _).setCell (p := ⟨g4, 1, none⟩) HG4.out _⟩
end Go.Proofs.Yteljjkghjbofnaa
