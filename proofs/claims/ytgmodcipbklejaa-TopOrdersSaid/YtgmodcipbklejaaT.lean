/- reading.Shown; what is seen. -/
import Derived.Test.YtgmodcipbklejaaG
import Derived.Test.YtgmodcipbklejaaM
set_option maxRecDepth 100000
namespace Go.Proofs.Ytgmodcipbklejaa
open Go Go.Proofs Go.RowKit
attribute [local go_sem] Oper.semAt_some

def ShownPost (l : List Obs) (w : World) (e : Ending) (w' : World) : Prop := ∃ v, e = .returned (.tuple #[v, .int .i64 0]) ∧ OwnG w' w.heap.size 55 7 obsC v l ∧ Kept w w'
set_option maxHeartbeats 2000000 in
theorem Shown_any (o : Prob) (ao bo : Option Addr) (ca cb : Nat) (d : List Int) (lo : Option Addr) (c : Nat) (w : World) (ho : IsProb w o ao bo) (hl : Ints w lo d) (hc : chk o = 0) (hk : CheckDaysR o 0 d = (true, 0)) (hdl : (d.length : Int) = o.N) (hdn : d.length ≤ 24) (hnl : o.near.length ≤ 100) :
    Calls Try.prog 7 #[probV o ao ca bo cb, .slice lo d.length c] w (ShownPost (shownF d o.near) w) := by
  have HO := Lib.hid ho
  have HL := Lib.hid hl
  have HC := Lib.hid hc
  have HK := Lib.hid hk
  have HN := Lib.hid (pair_of_chk hc).2.2.2
  have HDL := Lib.hid hdl
  clear ho hl hc hk hdl
  go_enter Try.func7, Try.ntmps7
  go_wp2_with fail
  obtain ⟨w0, e0, hk0, hb0, -⟩ := alloc_prob w o.N o.arcs o.near ao ca bo cb
  rw [e0]
  clear e0
  have HK0 := Lib.hid hk0
  have HB0 := Lib.hid hb0
  obtain ⟨g, hg⟩ : ∃ g, w.heap.size = g := ⟨_, rfl⟩
  rw [hg] at HB0 ⊢
  clear hk0 hb0 hg
  obtain ⟨q0, q1, q2⟩ := HB0.out
  have qb := lt_of_cell q0
  go_wp2_with fail
  clear q0 q1 q2 qb
  have hF := Check_any o ao bo ca cb w0 (HO.out.kept HK0.out)
  rw [HC.out] at hF
  refine hF.mono ?_
  clear hF
  rintro e w1 ⟨rfl, hk1⟩
  have HK1 := Lib.hid (HK0.out.trans hk1)
  have HB1 := Lib.hid (HB0.out.kept hk1)
  clear hk1
  obtain ⟨q0, q1, q2⟩ := HB1.out
  have qb := lt_of_cell q0
  go_wp2_with fail
  clear q0 q1 q2 qb
  have hF := CheckDays_any o ao bo ca cb 0 d lo c w1 (HO.out.kept HK1.out) (HL.out.kept HK1.out) (by omega)
  rw [HK.out] at hF
  refine hF.mono ?_
  clear hF
  rintro e w2 ⟨rfl, hk2⟩
  have HK2 := Lib.hid (HK1.out.trans hk2)
  have HB2 := Lib.hid (HB1.out.kept hk2)
  clear hk2
  obtain ⟨q0, q1, q2⟩ := HB2.out
  have qb := lt_of_cell q0
  go_wp2_with fail
  clear q0 q1 q2 qb
  go_loopw [34, 9] (fun iv vv wr => ∃ i : Nat, i ≤ o.near.length ∧ iv = .int .i64 i ∧ Kept w wr ∧ OwnG wr w.heap.size 55 7 obsC vv (shownF d (o.near.take i))) (fun iv _ _ => o.near.length - (intOf iv).toNat)
  case atStart => exact ⟨0, by omega, rfl, HK2.out, by simpa [shownF] using OwnG.nil _ _ _ _ _⟩
  case round =>
    obtain ⟨i, hi, rfl, hkr, hov⟩ := hrel
    have HKR := Lib.hid hkr
    have HOV := Lib.hid hov
    clear hkr hov
    by_cases hlt : i < o.near.length
    case neg =>
      have ei : o.near.take i = o.near := List.take_of_length_le (by omega)
      rw [ei] at HOV
      clear ei hi
      go_wp2
      go_ret2
      exact ⟨_, rfl, HOV.out, HKR.out⟩
    obtain ⟨⟨x, y⟩, hxy⟩ : ∃ p, o.near[i] = p := ⟨_, rfl⟩
    obtain ⟨x0, x1, x2⟩ := HN.out (x, y) (by rw [← hxy]; exact List.getElem_mem hlt)
    obtain ⟨b, off, rfl, c0, c1⟩ := (HO.out.kept HKR.out).near i hlt
    rw [hxy] at c0 c1
    simp only [] at x0 x1 x2 c0 c1
    have HSC := Lib.hid (shown_succ (d := d) hlt)
    rw [hxy] at HSC
    obtain ⟨a, rfl⟩ := Int.eq_ofNat_of_zero_le x0
    obtain ⟨b2, rfl⟩ := Int.eq_ofNat_of_zero_le (show 0 ≤ y by omega)
    have hdl := HDL.out
    have hal : a < d.length := by omega
    have hbl : b2 < d.length := by omega
    have hcb := lt_of_cell c0
    clear hxy x0 x1 x2 hdl
    obtain ⟨db, doff, rfl, da⟩ := HL.out.kept HKR.out a hal
    obtain ⟨db', doff', e, dbb⟩ := HL.out.kept HKR.out b2 hbl
    simp only [Option.some.injEq, Addr.mk.injEq] at e
    obtain ⟨rfl, rfl, -⟩ := e
    have hdb := lt_of_cell da
    have HDA : Hid (d.getD a 0 = d[a]) := Lib.hid (getD_get hal)
    have HDB : Hid (d.getD b2 0 = d[b2]) := Lib.hid (getD_get hbl)
    generalize d[a] = va at *
    generalize d[b2] = vb at *
    have hsl : Hid ((shownF d (o.near.take i)).length ≤ 100) := Lib.hid (by rw [shown_len]; have := List.length_take_le i o.near; omega)
    go_wp2_with fail
    refine region_tail 5 (by kernel_rfl) (by kernel_rfl) ?_
    simp only [List.take_succ_cons, List.take_zero, List.drop_succ_cons, List.drop_zero]
    iterate 5
      with_reducible refine wpStill_want ?_ (fun K hK => ?_)
      · rfl
      go_simp
      refine hK _ ?_
      clear hK K
    refine wpStill_nil ?_
    go_wp2_with fail
    refine region_tail 8 (by kernel_rfl) (by kernel_rfl) ?_
    simp only [List.take_succ_cons, List.take_zero, List.drop_succ_cons, List.drop_zero]
    iterate 8
      with_reducible refine wpStill_want ?_ (fun K hK => ?_)
      · rfl
      go_simp
      refine hK _ ?_
      clear hK K
    refine wpStill_nil ?_
    have HK4 : Hid (Kept wr ((wr.alloc (.cells #[.int .i64 a, .int .i64 b2] 47)).drew.drew)) := Lib.hid (((Kept.refl wr).alloc _).drew.drew)
    have ha24 : a < 24 := by omega
    have hb24 : b2 < 24 := by omega
    clear c0 c1 hcb da dbb hdb hal hbl
    generalize (wr.alloc (.cells #[.int .i64 a, .int .i64 b2] 47)).drew.drew = w4 at *
    by_cases hvv : vb < va
    · have hd : decide (va > vb) = true := decide_eq_true hvv
      have HOF : Hid (obsF d i ((a : Int), (b2 : Int)) = ⟨(i : Int) + 1, 0, 1, 1, (b2 : Int) + 1, (a : Int) + 1, 0⟩) := Lib.hid (by
        unfold obsF
        simp only [Int.toNat_natCast]
        rw [HDA.out, HDB.out, if_pos hvv])
      clear hvv
      go_wp2_with (first | (at_builtin; refine append_obs _ rfl _ _ rfl w.heap.size u9 _ rfl (HOV.out.kept (HK4.out.alloc _)) w4.heap.size ⟨(i : Int) + 1, 0, 1, 1, (b2 : Int) + 1, (a : Int) + 1, 0⟩ rfl (obs_new _ _ _ _ _ _ _ _) (by have := hsl.out; omega) (by have := (HKR.out.trans HK4.out).size; simp; omega) ?_; intro ra rc w6 hown6 hg6 hat6) | fail)
      go_roundw
      case measure => simp [intOf]; omega
      case rel => exact ⟨i + 1, by omega, by go_num, Kept.grown ((HKR.out.trans HK4.out).alloc _) hg6 (fun r e => (HOV.out.lt r e).1), by rw [HSC.out, HOF.out]; exact hown6⟩
    · have hd : decide (va > vb) = false := decide_eq_false hvv
      have HOF : Hid (obsF d i ((a : Int), (b2 : Int)) = ⟨(i : Int) + 1, 0, 1, 1, (a : Int) + 1, (b2 : Int) + 1, 0⟩) := Lib.hid (by
        unfold obsF
        simp only [Int.toNat_natCast]
        rw [HDA.out, HDB.out, if_neg hvv])
      clear hvv
      go_wp2_with (first | (at_builtin; refine append_obs _ rfl _ _ rfl w.heap.size u9 _ rfl (HOV.out.kept (HK4.out.alloc _)) w4.heap.size ⟨(i : Int) + 1, 0, 1, 1, (a : Int) + 1, (b2 : Int) + 1, 0⟩ rfl (obs_new _ _ _ _ _ _ _ _) (by have := hsl.out; omega) (by have := (HKR.out.trans HK4.out).size; simp; omega) ?_; intro ra rc w6 hown6 hg6 hat6) | fail)
      go_roundw
      case measure => simp [intOf]; omega
      case rel => exact ⟨i + 1, by omega, by go_num, Kept.grown ((HKR.out.trans HK4.out).alloc _) hg6 (fun r e => (HOV.out.lt r e).1), by rw [HSC.out, HOF.out]; exact hown6⟩
/-- Small numbers behind ao. -/
def U8s (X : World) (ao : Option Addr) (l : List Int) : Prop := ∀ i, (h : i < l.length) → ∃ b off, ao = some ⟨b, off, none⟩ ∧ X.cell? ⟨b, off + i, none⟩ = some (.int .u8 l[i]) ∧ 0 ≤ l[i] ∧ l[i] < 256
theorem U8s.kept {X Y : World} {ao : Option Addr} {l : List Int} (h : U8s X ao l) (hk : Kept X Y) : U8s Y ao l := fun i hi => by
  obtain ⟨b, off, e, hc, h0, h1⟩ := h i hi
  exact ⟨b, off, e, hk.cell hc, h0, h1⟩
def SeenPost (l : List Obs) (w : World) (e : Ending) (w' : World) : Prop := ∃ v, e = .returned v ∧ OwnG w' w.heap.size 55 7 obsC v l ∧ Kept w w'
set_option maxHeartbeats 400000 in
theorem seen_none (lo : Option Addr) (lc : Nat) (picks : List Int) (po : Option Addr) (pc : Nat) (w : World) : Calls Try.prog 9 #[.slice lo 0 lc, .slice po picks.length pc] w (SeenPost [] w) := by
  go_enter Try.func9, Try.ntmps9
  go_wp2
  go_loop [6, 5] (fun iv vv => iv = .int .i64 0 ∧ vv = .slice none 0 0) (fun _ _ => 0)
  case atStart => exact ⟨rfl, rfl⟩
  case round =>
    obtain ⟨rfl, rfl⟩ := hrel
    by_cases h : 0 < picks.length
    · go_wp2
      go_ret
      exact ⟨_, rfl, OwnG.nil _ _ _ _ _, Kept.refl w⟩
    · go_wp2
      go_ret
      exact ⟨_, rfl, OwnG.nil _ _ _ _ _, Kept.refl w⟩
set_option maxHeartbeats 2000000 in
theorem seen_some (l : List Obs) (lo : Option Addr) (lc : Nat) (picks : List Int) (po : Option Addr) (pc : Nat) (w : World) (h0 : l ≠ []) (hl : Obss w lo l) (hp : U8s w po picks) (hpl : picks.length ≤ 20) :
    Calls Try.prog 9 #[.slice lo l.length lc, .slice po picks.length pc] w (SeenPost (seenF l picks) w) := by
  have HL := Lib.hid hl
  have HP := Lib.hid hp
  have hl0 : 0 < l.length := List.length_pos_iff.2 h0
  have HLN := Lib.hid h0
  clear hl hp
  go_enter Try.func9, Try.ntmps9
  go_wp2_with fail
  go_loopw [6, 5] (fun iv vv wr => ∃ i : Nat, i ≤ picks.length ∧ iv = .int .i64 i ∧ Kept w wr ∧ OwnG wr w.heap.size 55 7 obsC vv (seenF l (picks.take i))) (fun iv _ _ => picks.length - (intOf iv).toNat)
  case atStart => exact ⟨0, by omega, rfl, Kept.refl w, by have e : seenF l (picks.take 0) = [] := (by unfold seenF; simp); rw [e]; exact OwnG.nil _ _ _ _ _⟩
  case round =>
    obtain ⟨i, hi, rfl, hkr, hov⟩ := hrel
    have HKR := Lib.hid hkr
    have HOV := Lib.hid hov
    clear hkr hov
    by_cases hlt : i < picks.length
    case neg =>
      have ei : picks.take i = picks := List.take_of_length_le (by omega)
      rw [ei] at HOV
      clear ei hi h0
      go_wp2
      go_ret
      exact ⟨_, rfl, HOV.out, HKR.out⟩
    obtain ⟨pb, poff, rfl, cp, p0, p1⟩ := HP.out.kept HKR.out i hlt
    have HSC := Lib.hid (seen_succ HLN.out hlt)
    have HSL : Hid ((seenF l (picks.take i)).length = i) := Lib.hid (by rw [seen_len HLN.out]; simp; omega)
    obtain ⟨k0, hk0⟩ : ∃ k0, picks[i] = k0 := ⟨_, rfl⟩
    rw [hk0] at cp p0 p1 HSC
    clear hk0
    obtain ⟨k, rfl⟩ := Int.eq_ofNat_of_zero_le p0
    have hk256 : k < 256 := by omega
    have hpbl := lt_of_cell cp
    obtain ⟨m, hm⟩ : ∃ m, k / 2 % l.length = m := ⟨_, rfl⟩
    have hml : m < l.length := by rw [← hm]; exact Nat.mod_lt _ hl0
    have hmt : ((k : Int) / 2).tmod (l.length : Int) = (m : Int) := by
      rw [Int.tmod_eq_emod_of_nonneg (by omega), ← hm]
      push_cast
      rfl
    obtain ⟨lb, loff, rfl, c0, c1, c2, c3, c4, c5, c6⟩ := HL.out.kept HKR.out m hml
    have HX : Hid (l.getD m ⟨0, 0, 0, 0, 0, 0, 0⟩ = l[m]) := Lib.hid (by rw [List.getD_eq_getElem?_getD, List.getElem?_eq_getElem hml]; rfl)
    have hlbl := lt_of_cell c0
    generalize l[m] = x at *
    obtain ⟨xi, xk, xr, xq, xa, xb, xv⟩ := x
    simp only [] at c0 c1 c2 c3 c4 c5 c6
    have HM := Lib.hid hm
    clear p0 p1 hm
    generalize seenF l (picks.take i) = s at *
    by_cases hodd : k % 2 = 1
    · have hkb : (((k : Int) % 2) == 1) = true := by simp; omega
      by_cases hi0 : 0 < i
      · obtain ⟨y, hy⟩ : ∃ y, s[i - 1]? = some y := ⟨s[i - 1]'(by rw [HSL.out]; omega), List.getElem?_eq_getElem _⟩
        have hy1 : s.getD (s.length - 1) ⟨0, 0, 0, 0, 0, 0, 0⟩ = y := by rw [HSL.out, List.getD_eq_getElem?_getD, hy]; rfl
        rcases HOV.out.slice obsC_len with ⟨e, -⟩ | ⟨g, gc, e, -, -, hgl, -, hgc⟩
        · have := HSL.out; rw [e] at this; simp at this; omega
        have hs0 : s ≠ [] := fun e => by have := HSL.out; rw [e] at this; simp at this; omega
        have hil : i - 1 < s.length := by rw [HSL.out]; omega
        have hey : s[i - 1] = y := by rw [List.getElem?_eq_getElem hil] at hy; exact Option.some.inj hy
        have d0 := hgc (i - 1) hil 0 _ rfl
        have d3 := hgc (i - 1) hil 3 _ rfl
        rw [hey] at d0 d3
        have HY := Lib.hid hy1
        have HS0 := Lib.hid hs0
        obtain ⟨yi, yk, yr, yq, ya, yb, yv⟩ := y
        simp only [Nat.add_zero] at d0 d3
        obtain ⟨j, hj⟩ : ∃ j, i - 1 = j := ⟨_, rfl⟩
        rw [hj] at d0 d3
        have hjI : (i : Int) - 1 = (j : Int) := by omega
        rw [HSL.out] at e
        subst e
        clear hgc hey hy hil hy1 hs0 hj
        by_cases hq : yq = 4
        · subst hq
          have HSO : Hid (seenOne l s k = ⟨(i : Int) + 1, (i : Int) / 2, xr, xq, xa, xb, xv⟩) := Lib.hid (by
            unfold seenOne
            rw [if_neg (by rw [Int.toNat_natCast]; exact fun h => h.2.2 (by rw [HY.out])), Int.toNat_natCast, HM.out, HX.out, HSL.out, Int.natCast_ediv]
            rfl)
          go_wp2_with (first | (at_builtin; refine append_obs _ rfl _ _ rfl w.heap.size _ s rfl (HOV.out.kept (((Kept.refl _).alloc _).alloc _)) (wr.heap.size + 1) ⟨(i : Int) + 1, (i : Int) / 2, xr, xq, xa, xb, xv⟩ rfl (by simpa using obs_new (wr.alloc _) ((i : Int) + 1) ((i : Int) / 2) xr xq xa xb xv) (by have := HSL.out; omega) (by have := HKR.out.size; simp; omega) ?_; intro ra rc w6 hown6 hg6 hat6) | fail)
          go_roundw
          case measure => simp [intOf]; omega
          case rel => exact ⟨i + 1, by omega, by go_num, Kept.grown ((HKR.out.alloc _).alloc _) hg6 (fun r e => (HOV.out.lt r e).1), by rw [HSC.out, HSO.out]; exact hown6⟩
        · have hqb : (yq != 4) = true := by simp [hq]
          have HSO : Hid (seenOne l s k = ⟨(i : Int) + 1, (i : Int) / 2, 1, 4, 0, 0, yi⟩) := Lib.hid (by
            unfold seenOne
            rw [if_pos ⟨by rw [Int.toNat_natCast]; exact hodd, HS0.out, by rw [HY.out]; exact hq⟩, HY.out, HSL.out, Int.natCast_ediv]
            rfl)
          clear hq
          go_wp2_with (first | (at_builtin; refine append_obs _ rfl _ _ rfl w.heap.size _ s rfl (HOV.out.kept (((Kept.refl _).alloc _).alloc _)) (wr.heap.size + 1) ⟨(i : Int) + 1, (i : Int) / 2, 1, 4, 0, 0, yi⟩ rfl (by simpa using obs_new (wr.alloc _) ((i : Int) + 1) ((i : Int) / 2) 1 4 0 0 yi) (by have := HSL.out; omega) (by have := HKR.out.size; simp; omega) ?_; intro ra rc w6 hown6 hg6 hat6) | fail)
          go_roundw
          case measure => simp [intOf]; omega
          case rel => exact ⟨i + 1, by omega, by go_num, Kept.grown ((HKR.out.alloc _).alloc _) hg6 (fun r e => (HOV.out.lt r e).1), by rw [HSC.out, HSO.out]; exact hown6⟩
      · have hd2 : decide (0 < i) = false := decide_eq_false hi0
        have hs0 : s = [] := List.eq_nil_of_length_eq_zero (by rw [HSL.out]; omega)
        have HSO : Hid (seenOne l s k = ⟨(i : Int) + 1, (i : Int) / 2, xr, xq, xa, xb, xv⟩) := Lib.hid (by
          unfold seenOne
          rw [if_neg (by rw [Int.toNat_natCast]; exact fun h => h.2.1 hs0), Int.toNat_natCast, HM.out, HX.out, HSL.out, Int.natCast_ediv]
          rfl)
        have hs00 : s.length = 0 := by rw [hs0]; rfl
        rcases HOV.out.slice obsC_len with ⟨-, e⟩ | ⟨g, gc, e, -⟩
        · subst e
          clear hs0 hs00 hi0
          go_wp2_with (first | (at_builtin; refine append_obs _ rfl _ _ rfl w.heap.size _ s rfl (HOV.out.kept (((Kept.refl _).alloc _).alloc _)) (wr.heap.size + 1) ⟨(i : Int) + 1, (i : Int) / 2, xr, xq, xa, xb, xv⟩ rfl (by simpa using obs_new (wr.alloc _) ((i : Int) + 1) ((i : Int) / 2) xr xq xa xb xv) (by have := HSL.out; omega) (by have := HKR.out.size; simp; omega) ?_; intro ra rc w6 hown6 hg6 hat6) | fail)
          go_roundw
          case measure => simp [intOf]; omega
          case rel => exact ⟨i + 1, by omega, by go_num, Kept.grown ((HKR.out.alloc _).alloc _) hg6 (fun r e => (HOV.out.lt r e).1), by rw [HSC.out, HSO.out]; exact hown6⟩
        · rw [hs00] at e
          subst e
          clear hs0 hs00 hi0
          go_wp2_with (first | (at_builtin; refine append_obs _ rfl _ _ rfl w.heap.size _ s rfl (HOV.out.kept (((Kept.refl _).alloc _).alloc _)) (wr.heap.size + 1) ⟨(i : Int) + 1, (i : Int) / 2, xr, xq, xa, xb, xv⟩ rfl (by simpa using obs_new (wr.alloc _) ((i : Int) + 1) ((i : Int) / 2) xr xq xa xb xv) (by have := HSL.out; omega) (by have := HKR.out.size; simp; omega) ?_; intro ra rc w6 hown6 hg6 hat6) | fail)
          go_roundw
          case measure => simp [intOf]; omega
          case rel => exact ⟨i + 1, by omega, by go_num, Kept.grown ((HKR.out.alloc _).alloc _) hg6 (fun r e => (HOV.out.lt r e).1), by rw [HSC.out, HSO.out]; exact hown6⟩
    · have hkb : (((k : Int) % 2) == 1) = false := by simp; omega
      have HSO : Hid (seenOne l s k = ⟨(i : Int) + 1, (i : Int) / 2, xr, xq, xa, xb, xv⟩) := Lib.hid (by
        unfold seenOne
        rw [if_neg (by rw [Int.toNat_natCast]; exact fun h => hodd h.1), Int.toNat_natCast, HM.out, HX.out, HSL.out, Int.natCast_ediv]
        rfl)
      go_wp2_with (first | (at_builtin; refine append_obs _ rfl _ _ rfl w.heap.size _ s rfl (HOV.out.kept (((Kept.refl _).alloc _).alloc _)) (wr.heap.size + 1) ⟨(i : Int) + 1, (i : Int) / 2, xr, xq, xa, xb, xv⟩ rfl (by simpa using obs_new (wr.alloc _) ((i : Int) + 1) ((i : Int) / 2) xr xq xa xb xv) (by have := HSL.out; omega) (by have := HKR.out.size; simp; omega) ?_; intro ra rc w6 hown6 hg6 hat6) | fail)
      go_roundw
      case measure => simp [intOf]; omega
      case rel => exact ⟨i + 1, by omega, by go_num, Kept.grown ((HKR.out.alloc _).alloc _) hg6 (fun r e => (HOV.out.lt r e).1), by rw [HSC.out, HSO.out]; exact hown6⟩
theorem seen_any (l : List Obs) (lo : Option Addr) (lc : Nat) (picks : List Int) (po : Option Addr) (pc : Nat) (w : World) (hl : Obss w lo l) (hp : U8s w po picks) (hpl : picks.length ≤ 20) :
    Calls Try.prog 9 #[.slice lo l.length lc, .slice po picks.length pc] w (SeenPost (seenF l picks) w) := by
  by_cases h0 : l = []
  · subst h0
    have e : seenF [] picks = [] := by unfold seenF; simp
    rw [e]
    exact seen_none lo lc picks po pc w
  · exact seen_some l lo lc picks po pc w h0 hl hp hpl
end Go.Proofs.Ytgmodcipbklejaa
