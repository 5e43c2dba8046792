/- OrderDays. -/
import Derived.Test.YteljjkghjbofnaaYp
import Derived.Test.YteljjkghjbofnaaYq
import Derived.Test.YteljjkghjbofnaaXh
set_option maxRecDepth 100000
namespace Go.Proofs.Yteljjkghjbofnaa
open Go Go.Proofs Go.RowKit
attribute [local go_sem] Oper.semAt_some

set_option maxHeartbeats 400000 in
theorem RReasons_any (o : Prob) (ao bo : Option Addr) (ca cb : Nat) (dry : Int) (l : List Int) (lo : Option Addr) (c : Nat) (w : World) (ho : IsProb w o ao bo) (hl : Ints w lo l) (hll : l.length < 1152921504606846976) (hlc : l.length ≤ c) :
    Calls Try.prog 43 #[probV o ao ca bo cb, .int .i64 dry, .slice lo l.length c] w (ReasonsPost (ReasonsR o dry l).1 (ReasonsR o dry l).2 w) := by
  by_cases h : datErr o dry l = 0
  · have hr : ReasonsR o dry l = (reasonsL (webOf o) dry l, 0) := by unfold ReasonsR; rw [if_pos h]
    rw [hr]
    exact RReasons_ok o ao bo ca cb dry l lo c w ho hl hll hlc h
  · have hr : ReasonsR o dry l = ([], datErr o dry l) := by unfold ReasonsR; rw [if_neg h]
    rw [hr]
    have HO := Lib.hid ho
    have HL := Lib.hid hl
    have hb : (datErr o dry l != 0) = true := by simp [h]
    clear hr h ho hl
    go_enter Try.func43, Try.ntmps43
    go_wp2_with fail
    obtain ⟨w0, e0, hk0, hb0, -⟩ := alloc_prob w o.N o.arcs o.near ao ca bo cb
    rw [e0]
    clear e0
    have HK0 := Lib.hid hk0
    have HB0 := Lib.hid hb0
    clear hk0
    obtain ⟨q0, q1, q2⟩ := hb0
    have qb := lt_of_cell q0
    go_wp2_with fail
    clear q0 q1 q2 qb
    refine (Rdried_any o ao bo ca cb dry l lo c w0 (HO.out.kept HK0.out) (HL.out.kept HK0.out) hll hlc).mono ?_
    rintro e w1 ⟨rfl, hk1⟩
    have HK1 := Lib.hid (HK0.out.trans hk1)
    clear hk1
    go_wp2
    go_ret2
    exact ⟨_, rfl, OwnG.nil _ _ _ _ _, HK1.out⟩

/-- Behind ao lie the reasons rs. -/
def Rsns (X : World) (ao : Option Addr) (rs : List Rsn) : Prop := ∀ i, (h : i < rs.length) → ∃ b, ao = some ⟨b, 0, none⟩ ∧ X.cell? ⟨b, i * 3, none⟩ = some (.int .i64 (rs[i]).1) ∧ X.cell? ⟨b, i * 3 + 1, none⟩ = some (.int .i64 (rs[i]).2.1) ∧ X.cell? ⟨b, i * 3 + 2, none⟩ = some (.int .u8 (rs[i]).2.2)
theorem Rsns.kept {X Y : World} {ao : Option Addr} {rs : List Rsn} (h : Rsns X ao rs) (hk : Kept X Y) : Rsns Y ao rs := fun i hi => by
  obtain ⟨b, e, h0, h1, h2⟩ := h i hi
  exact ⟨b, e, hk.cell h0, hk.cell h1, hk.cell h2⟩
theorem OwnG.rsns {X : World} {base : Nat} {v : Value} {rs : List Rsn} (h : OwnG X base 44 3 rsnC v rs) : ∃ ao c, v = .slice ao rs.length c ∧ Rsns X ao rs := by
  rcases h.slice rsnC_len with ⟨rfl, rfl⟩ | ⟨g, c, rfl, -, -, -, -, hc⟩
  · exact ⟨none, 0, rfl, fun i h => by simp at h⟩
  · exact ⟨_, c, rfl, fun i hi => ⟨g, rfl, hc i hi 0 _ rfl, hc i hi 1 _ rfl, hc i hi 2 _ rfl⟩⟩

set_option maxHeartbeats 800000 in
theorem sameR_any (rs : List Rsn) (ao bo : Option Addr) (ca cb : Nat) (w : World) (ha : Rsns w ao rs) (hb : Rsns w bo rs) (hl : rs.length < 1000) : Calls Try.prog 44 #[.slice ao rs.length ca, .slice bo rs.length cb] w (Gives (.bool true) w) := by
  have HA := Lib.hid ha
  have HB := Lib.hid hb
  clear ha hb
  have hne : ((rs.length : Int) != (rs.length : Int)) = false := by simp
  go_enter Try.func44, Try.ntmps44
  go_wp2
  go_loopw [5] (fun i wr => ∃ k : Nat, k ≤ rs.length ∧ i = .int .i64 k ∧ Kept w wr) (fun i _ => rs.length - (intOf i).toNat)
  case atStart => exact ⟨0, Nat.zero_le _, rfl, Kept.refl _⟩
  case round =>
    obtain ⟨k, hk, rfl, hkw⟩ := hrel
    have HKW := Lib.hid hkw
    clear hkw
    by_cases hlt : k < rs.length
    · obtain ⟨g1, rfl, a0, a1, a2⟩ := (HA.out.kept HKW.out) k hlt
      obtain ⟨g2, rfl, b0, b1, b2⟩ := (HB.out.kept HKW.out) k hlt
      generalize rs[k] = x at *
      obtain ⟨x0, x1, x2⟩ := x
      simp only [] at a0 a1 a2 b0 b1 b2
      go_wp2
      refine region_tail 8 (by kernel_rfl) (by kernel_rfl) ?_
      simp only [List.take_succ_cons, List.take_zero, List.drop_succ_cons, List.drop_zero]
      iterate 8
        with_reducible refine wpStill_want ?_ (fun K hK => ?_)
        · rfl
        go_simp
        refine hK _ ?_
        clear hK K
      with_reducible refine wpStill_nil ?_
      go_wp2
      go_roundw
      case measure => simp [intOf] <;> omega
      case rel => exact ⟨k + 1, by omega, by go_num, HKW.out.drew⟩
    · go_wp2
      go_ret
      exact ⟨rfl, HKW.out⟩

theorem days_len (o : Prob) (dry : Int) (l : List Int) : (DaysR o dry l).1.length ≤ 24 := by
  unfold DaysR
  split
  · rename_i h
    obtain ⟨hc, _, _⟩ := datErr_ok h
    show (daysOf _ _ _).length ≤ 24
    unfold daysOf
    rw [daysPart_length]
    exact webOf_n hc
  · simp
theorem rsnL_len {W : Web} {dry : Int} {l D : List Int} : ∀ (f k : Nat), (rsnL W dry l D f k).length ≤ f
  | 0, _ => Nat.le_refl _
  | f + 1, k => by
    unfold rsnL
    split
    · simp
    · have := rsnL_len (W := W) (dry := dry) (l := l) (D := D) f (l.idxOf (whyR W dry l D k).2.1)
      simp only [List.length_cons]; omega
theorem reasons_len (o : Prob) (dry : Int) (l : List Int) (h : l.length ≤ 30) : (ReasonsR o dry l).1.length ≤ 30 := by
  unfold ReasonsR
  split
  · show (reasonsL _ _ _).length ≤ 30
    unfold reasonsL
    exact Nat.le_trans (rsnL_len _ _) h
  · simp

set_option maxHeartbeats 400000 in
theorem OrderDays_wide (o : Prob) (ao bo : Option Addr) (ca cb : Nat) (dry : Int) (l : List Int) (lo : Option Addr) (c : Nat) (d : List Int) (do_ : Option Addr) (dc : Nat) (w : World) (h : slimB o = false ∨ 30 < l.length ∨ 30 < d.length) :
    Calls Try.prog 8 #[probV o ao ca bo cb, .int .i64 dry, .slice lo l.length c, .slice do_ d.length dc] w (Gives (.bool true) w) := by
  go_enter Try.func8, Try.ntmps8
  go_wp2_with fail
  obtain ⟨w0, e0, hk0, hb0, -⟩ := alloc_prob w o.N o.arcs o.near ao ca bo cb
  rw [e0]
  clear e0
  have HK0 := Lib.hid hk0
  have HB0 := Lib.hid hb0
  clear hk0
  obtain ⟨q0, q1, q2⟩ := hb0
  have qb := lt_of_cell q0
  go_wp2_with fail
  clear q0 q1 q2 qb
  refine (slim_any o ao bo ca cb w0).mono ?_
  rintro e w1 ⟨rfl, hk⟩
  have HK1 := Lib.hid (HK0.out.trans hk)
  clear hk HK0
  cases hs : slimB o
  · clear h hs
    go_wp2_with fail
    refine (alive_any w1).mono ?_
    rintro e w2 ⟨rfl, hk⟩
    have HK2 := Lib.hid (HK1.out.trans hk)
    clear hk HK1
    go_wp2
    go_ret
    exact ⟨rfl, HK2.out⟩
  · have h2 : 30 < l.length ∨ 30 < d.length := h.resolve_left (by rw [hs]; simp)
    clear h hs
    by_cases h30 : 30 < l.length
    · have hd : decide ((30 : Int) < l.length) = true := decide_eq_true (by omega)
      clear h2 h30
      go_wp2_with fail
      refine (alive_any w1).mono ?_
      rintro e w2 ⟨rfl, hk⟩
      have HK2 := Lib.hid (HK1.out.trans hk)
      clear hk HK1
      go_wp2
      go_ret
      exact ⟨rfl, HK2.out⟩
    · have hd : decide ((30 : Int) < l.length) = false := decide_eq_false (by omega)
      have hd2 : decide ((30 : Int) < d.length) = true := decide_eq_true (by omega)
      clear h2 h30
      go_wp2_with fail
      refine (alive_any w1).mono ?_
      rintro e w2 ⟨rfl, hk⟩
      have HK2 := Lib.hid (HK1.out.trans hk)
      clear hk HK1
      go_wp2
      go_ret
      exact ⟨rfl, HK2.out⟩

set_option maxHeartbeats 1600000 in
theorem OrderDays_main (o : Prob) (ao bo : Option Addr) (ca cb : Nat) (dry : Int) (l : List Int) (lo : Option Addr) (c : Nat) (d : List Int) (do_ : Option Addr) (dc : Nat) (w : World) (ho : IsProb w o ao bo) (hl : Ints w lo l) (hlc : l.length ≤ c) (hdi : Ints w do_ d) (hs : slimB o = true) (h30 : l.length ≤ 30) (hd30 : d.length ≤ 30) :
    Calls Try.prog 8 #[probV o ao ca bo cb, .int .i64 dry, .slice lo l.length c, .slice do_ d.length dc] w (Gives (.bool true) w) := by
  have hdl := days_len o dry l
  have hrl := reasons_len o dry l h30
  obtain ⟨dx, hdx⟩ : ∃ x, (DaysR o dry l).1 = x := ⟨_, rfl⟩
  obtain ⟨de, hde⟩ : ∃ x, (DaysR o dry l).2 = x := ⟨_, rfl⟩
  obtain ⟨rx, hrx⟩ : ∃ x, (ReasonsR o dry l).1 = x := ⟨_, rfl⟩
  obtain ⟨re, hre⟩ : ∃ x, (ReasonsR o dry l).2 = x := ⟨_, rfl⟩
  obtain ⟨kb, hkb⟩ : ∃ x, (CheckDaysR o dry d).1 = x := ⟨_, rfl⟩
  obtain ⟨ke, hke⟩ : ∃ x, (CheckDaysR o dry d).2 = x := ⟨_, rfl⟩
  rw [hdx] at hdl
  rw [hrx] at hrl
  have HDX := Lib.hid hdx
  have HDE := Lib.hid hde
  have HRX := Lib.hid hrx
  have HRE := Lib.hid hre
  have HKB := Lib.hid hkb
  have HKE := Lib.hid hke
  have HDL : Hid (dx.length < 1000) := Lib.hid (by omega)
  have HRL : Hid (rx.length < 1000) := Lib.hid (by omega)
  have HL30 : Hid (l.length < 1152921504606846976) := Lib.hid (by omega)
  have HD30 : Hid (d.length < 1152921504606846976) := Lib.hid (by omega)
  have HLC := Lib.hid hlc
  have e1 : (de == de) = true := by simp
  have e2 : (kb == kb) = true := by simp
  have e3 : (ke == ke) = true := by simp
  have e4 : (re == re) = true := by simp
  clear hdx hde hrx hre hkb hke hdl hrl hlc
  have hd : decide ((30 : Int) < l.length) = false := decide_eq_false (by omega)
  have hd2 : decide ((30 : Int) < d.length) = false := decide_eq_false (by omega)
  have ID := Lib.hid hdi
  clear hdi
  go_enter Try.func8, Try.ntmps8
  go_wp2_with fail
  obtain ⟨w0, e0, hk0, hb0, -⟩ := alloc_prob w o.N o.arcs o.near ao ca bo cb
  rw [e0]
  clear e0
  have B0 : Hid (Bag w w0 w.heap.size o ao ca bo cb lo l) := Lib.hid ⟨ho.kept hk0, hb0, hl.kept hk0, hk0⟩
  have ID := Lib.hid (ID.out.kept hk0)
  clear ho hl hk0
  obtain ⟨q0, q1, q2⟩ := hb0
  have qb := lt_of_cell q0
  go_wp2_with fail
  clear q0 q1 q2 qb
  refine (slim_any o ao bo ca cb w0).mono ?_
  rw [hs]
  rintro e w1 ⟨rfl, hk⟩
  have B1 := Lib.hid (B0.out.kept hk)
  have ID := Lib.hid (ID.out.kept hk)
  clear hk B0
  obtain ⟨q0, q1, q2⟩ := B1.out.b
  have qb := lt_of_cell q0
  go_wp2_with fail
  clear q0 q1 q2 qb
  have hF := Days_any o ao bo ca cb dry l lo c w1 B1.out.p B1.out.l HL30.out HLC.out
  rw [HDX.out, HDE.out] at hF
  refine hF.mono ?_
  clear hF
  rintro e w2 ⟨v1, rfl, hn, hk⟩
  obtain ⟨a1, c1, rfl, -, i1, -⟩ := hn
  have I1 := Lib.hid i1
  clear i1
  have B2 := Lib.hid (B1.out.kept hk)
  have ID := Lib.hid (ID.out.kept hk)
  clear hk B1
  obtain ⟨q0, q1, q2⟩ := B2.out.b
  have qb := lt_of_cell q0
  go_wp2_with fail
  clear q0 q1 q2 qb
  have hF := RDays_any o ao bo ca cb dry l lo c w2 B2.out.p B2.out.l HL30.out HLC.out
  rw [HDX.out, HDE.out] at hF
  refine hF.mono ?_
  clear hF
  rintro e w3 ⟨v2, rfl, hn, hk⟩
  obtain ⟨a2, c2, rfl, -, i2, -⟩ := hn
  have I2 := Lib.hid i2
  clear i2
  have B3 := Lib.hid (B2.out.kept hk)
  have ID := Lib.hid (ID.out.kept hk)
  have I1 := Lib.hid (I1.out.kept hk)
  clear hk B2
  obtain ⟨q0, q1, q2⟩ := B3.out.b
  have qb := lt_of_cell q0
  go_wp2_with fail
  clear q0 q1 q2 qb
  have hF := CheckDays_any o ao bo ca cb dry d do_ dc w3 B3.out.p ID.out HD30.out
  rw [HKB.out, HKE.out] at hF
  refine hF.mono ?_
  clear hF
  rintro e w4 ⟨rfl, hk⟩
  have B4 := Lib.hid (B3.out.kept hk)
  have ID := Lib.hid (ID.out.kept hk)
  have I1 := Lib.hid (I1.out.kept hk)
  have I2 := Lib.hid (I2.out.kept hk)
  clear hk B3
  obtain ⟨q0, q1, q2⟩ := B4.out.b
  have qb := lt_of_cell q0
  go_wp2_with fail
  clear q0 q1 q2 qb
  have hF := RCheckDays_any o ao bo ca cb dry d do_ dc w4 B4.out.p ID.out HD30.out
  rw [HKB.out, HKE.out] at hF
  refine hF.mono ?_
  clear hF
  rintro e w5 ⟨rfl, hk⟩
  have B5 := Lib.hid (B4.out.kept hk)
  have ID := Lib.hid (ID.out.kept hk)
  have I1 := Lib.hid (I1.out.kept hk)
  have I2 := Lib.hid (I2.out.kept hk)
  clear hk B4
  obtain ⟨q0, q1, q2⟩ := B5.out.b
  have qb := lt_of_cell q0
  go_wp2_with fail
  clear q0 q1 q2 qb
  have hF := Reasons_any o ao bo ca cb dry l lo c w5 B5.out.p B5.out.l HL30.out HLC.out
  rw [HRX.out, HRE.out] at hF
  refine hF.mono ?_
  clear hF
  rintro e w6 ⟨v3, rfl, hn, hk⟩
  obtain ⟨a3, c3, rfl, i3⟩ := hn.rsns
  have I3 := Lib.hid i3
  clear i3 hn
  have B6 := Lib.hid (B5.out.kept hk)
  have I1 := Lib.hid (I1.out.kept hk)
  have I2 := Lib.hid (I2.out.kept hk)
  clear hk B5
  obtain ⟨q0, q1, q2⟩ := B6.out.b
  have qb := lt_of_cell q0
  go_wp2_with fail
  clear q0 q1 q2 qb
  have hF := RReasons_any o ao bo ca cb dry l lo c w6 B6.out.p B6.out.l HL30.out HLC.out
  rw [HRX.out, HRE.out] at hF
  refine hF.mono ?_
  clear hF
  rintro e w7 ⟨v4, rfl, hn, hk⟩
  obtain ⟨a4, c4, rfl, i4⟩ := hn.rsns
  have I4 := Lib.hid i4
  clear i4 hn
  have B7 := Lib.hid (B6.out.kept hk)
  have I1 := Lib.hid (I1.out.kept hk)
  have I2 := Lib.hid (I2.out.kept hk)
  have I3 := Lib.hid (I3.out.kept hk)
  clear hk B6
  obtain ⟨q0, q1, q2⟩ := B7.out.b
  have qb := lt_of_cell q0
  go_wp2_with fail
  clear q0 q1 q2 qb
  have hF := alive_any w7
  refine hF.mono ?_
  clear hF
  rintro e w8 ⟨rfl, hk⟩
  have B8 := Lib.hid (B7.out.kept hk)
  have I1 := Lib.hid (I1.out.kept hk)
  have I2 := Lib.hid (I2.out.kept hk)
  have I3 := Lib.hid (I3.out.kept hk)
  have I4 := Lib.hid (I4.out.kept hk)
  clear hk B7
  obtain ⟨q0, q1, q2⟩ := B8.out.b
  have qb := lt_of_cell q0
  go_wp2_with fail
  clear q0 q1 q2 qb
  have hF := same_any dx a1 a2 c1 c2 dx.length w8 I1.out I2.out rfl HDL.out
  refine hF.mono ?_
  clear hF
  rintro e w9 ⟨rfl, hk⟩
  have B9 := Lib.hid (B8.out.kept hk)
  have I3 := Lib.hid (I3.out.kept hk)
  have I4 := Lib.hid (I4.out.kept hk)
  clear hk B8
  obtain ⟨q0, q1, q2⟩ := B9.out.b
  have qb := lt_of_cell q0
  go_wp2_with fail
  clear q0 q1 q2 qb
  have hF := sameR_any rx a3 a4 c3 c4 w9 I3.out I4.out HRL.out
  refine hF.mono ?_
  clear hF
  rintro e w10 ⟨rfl, hk⟩
  have B10 := Lib.hid (B9.out.kept hk)
  clear hk B9
  go_wp2
  go_ret
  exact ⟨rfl, B10.out.k⟩

theorem OrderDays_any (o : Prob) (ao bo : Option Addr) (ca cb : Nat) (dry : Int) (l : List Int) (lo : Option Addr) (c : Nat) (d : List Int) (do_ : Option Addr) (dc : Nat) (w : World) (hA : Pairs w ao o.arcs) (hB : Pairs w bo o.near) (hl : Ints w lo l) (hlc : l.length ≤ c) (hdi : Ints w do_ d) :
    Calls Try.prog 8 #[probV o ao ca bo cb, .int .i64 dry, .slice lo l.length c, .slice do_ d.length dc] w (Gives (.bool true) w) := by
  by_cases hs : slimB o = false
  · exact OrderDays_wide o ao bo ca cb dry l lo c d do_ dc w (.inl hs)
  · have hs : slimB o = true := by simpa using hs
    by_cases h30 : 30 < l.length
    · exact OrderDays_wide o ao bo ca cb dry l lo c d do_ dc w (.inr (.inl h30))
    · by_cases hd30 : 30 < d.length
      · exact OrderDays_wide o ao bo ca cb dry l lo c d do_ dc w (.inr (.inr hd30))
      · refine OrderDays_main o ao bo ca cb dry l lo c d do_ dc w ?_ hl hlc hdi hs (by omega) (by omega)
        have h := hs
        unfold slimB at h
        simp at h
        exact ⟨hA, hB, by omega, by omega⟩
end Go.Proofs.Yteljjkghjbofnaa
