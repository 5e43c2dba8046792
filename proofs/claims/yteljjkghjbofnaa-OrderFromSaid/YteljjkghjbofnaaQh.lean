/- OrderFrom. -/
import Derived.Test.YteljjkghjbofnaaQg
import Derived.Test.YteljjkghjbofnaaTc
set_option maxRecDepth 100000
namespace Go.Proofs.Yteljjkghjbofnaa
open Go Go.Proofs Go.RowKit
attribute [local go_sem] Oper.semAt_some

theorem two_boxes (w : World) (A0 A1 B0 : Value) : ∃ w4, (w.alloc (.cells #[A0, A1] 75)).alloc (.cells #[B0] 77) = w4 ∧ Kept w w4 ∧ w4.cell? ⟨w.heap.size, 0, none⟩ = some A0 ∧ w4.cell? ⟨w.heap.size, 1, none⟩ = some A1 ∧ w4.cell? ⟨w.heap.size + 1, 0, none⟩ = some B0 := by
  refine ⟨_, rfl, ((Kept.refl w).alloc _).alloc _, ?_, ?_, ?_⟩
  · exact ((Kept.refl _).alloc _).cell (cell_new2 w A0 A1 75).1
  · exact ((Kept.refl _).alloc _).cell (cell_new2 w A0 A1 75).2
  · have h := cell_new0 (w.alloc (.cells #[A0, A1] 75)) B0 77
    have e : (w.alloc (.cells #[A0, A1] 75)).heap.size = w.heap.size + 1 := by simp
    rw [e] at h
    exact h
theorem flat_le {chs : List (List Int)} {m : Nat} (h : ∀ c ∈ chs, c.length ≤ m) : ∀ k, (chs.take k).flatten.length ≤ m * k := by
  intro k
  induction k with
  | zero => simp
  | succ k ih =>
    by_cases hk : k < chs.length
    · rw [flat_len_succ hk]
      have := h chs[k] (List.getElem_mem hk)
      rw [Nat.mul_succ]
      omega
    · rw [List.take_of_length_le (by omega)] at ih ⊢
      rw [Nat.mul_succ]
      omega

set_option maxHeartbeats 4000000 in
theorem OrderFrom_any (l : List Seam) (so : Option Addr) (sc : Nat) (xo : Option Addr) (xn xc : Nat) (chs : List (List Int)) (co : Option Addr) (cc : Nat) (w : World) (hs : Seams w so l) (hc : Chs w co chs) (hln : chs.length < 140737488355328) (hlc : ∀ c ∈ chs, c.length ≤ 17592186044416) (hwc : ∀ x ∈ chs.flatten, wfI x) (hws : ∀ x ∈ l, wfI x.a ∧ wfI x.b ∧ 0 ≤ x.up ∧ x.up < 256) :
    Calls Try.prog 17 #[.agg #[.slice xo xn xc, .slice so l.length sc], .agg #[.slice co chs.length cc]] w (Gives (.bool true) w) := by
  have HS := Lib.hid hs
  have HC := Lib.hid hc
  have HLC := Lib.hid hlc
  have HWC := Lib.hid hwc
  have HWS := Lib.hid hws
  have HFL := Lib.hid (flat_le hlc)
  have HSU : Hid (∀ k (h : k < chs.length), (chs.take (k + 1)).flatten.length = (chs.take k).flatten.length + chs[k].length) := Lib.hid fun k h => flat_len_succ h
  clear hs hc hlc hwc hws
  go_enter Try.func17, Try.ntmps17
  go_wp2_with fail
  obtain ⟨w4, e4, hk4, b0, b1, d0⟩ := two_boxes w (.slice xo xn xc) (.slice so l.length sc) (.slice co chs.length cc)
  rw [e4]
  clear e4
  obtain ⟨g0, hg0⟩ : ∃ g, w.heap.size = g := ⟨_, rfl⟩
  obtain ⟨g1, hg1⟩ : ∃ g, w.heap.size + 1 = g := ⟨_, rfl⟩
  rw [hg1] at d0 ⊢
  rw [hg0] at b0 b1 ⊢
  have HK4 := Lib.hid hk4
  have HB0 := Lib.hid (And.intro b0 b1)
  have HD0 := Lib.hid d0
  clear hg0 hg1 hk4 b0 b1 d0
  go_loop [5, 15] (fun cv iv => ∃ (i : Nat) (v : Int), i ≤ chs.length ∧ iv = .int .i64 i ∧ cv = .int .i64 v ∧ (chs.length ≤ 60 → v = ((chs.take i).flatten.length : Int))) (fun _ iv => chs.length - (intOf iv).toNat)
  case atStart => exact ⟨0, 0, Nat.zero_le _, rfl, rfl, fun _ => by simp⟩
  case round =>
    obtain ⟨i, v, hi, rfl, rfl, hv⟩ := hrel
    have HV := Lib.hid hv
    clear hv
    by_cases hlt : i < chs.length
    case pos =>
      obtain ⟨B, off, la, lc, rfl, hc, -⟩ := chs_at (HC.out.kept HK4.out) hlt
      have hcb := lt_of_cell hc
      have HLT : Hid (0 < chs.length - i) := Lib.hid (by omega)
      have HVN : Hid (chs.length ≤ 60 → wrap64 (v + (chs[i].length : Int)) = ((chs.take (i + 1)).flatten.length : Int)) := Lib.hid fun h => by
        have h1 := HFL.out (i + 1)
        have h2 := HSU.out i hlt
        have h3 : (chs.take (i + 1)).flatten.length ≤ 17592186044416 * 60 := Nat.le_trans h1 (Nat.mul_le_mul_left _ (by omega))
        rw [HV.out h, IntWalk.wrap64_in _ (by omega), h2]
        simp
      clear hi
      generalize chs[i].length = m at *
      have hi47 : i < 140737488355328 := by omega
      go_wp2
      go_round
      case measure => have := HLT.out; simp [intOf] <;> omega
      case rel => exact ⟨i + 1, _, by have := HLT.out; omega, by go_num, rfl, HVN.out⟩
    obtain rfl : i = chs.length := by omega
    rw [List.take_length] at HV
    clear hi hlt HSU
    obtain ⟨b0, b1⟩ := HB0.out
    have bb := lt_of_cell b0
    have d0 := HD0.out
    have db := lt_of_cell d0
    by_cases h1 : 100 < l.length
    case pos =>
      have e1 : decide ((l.length : Int) > 100) = true := decide_eq_true (by omega)
      clear h1
      go_wp2_with fail
      refine (alive_any w4).mono ?_
      rintro e wz ⟨rfl, hk⟩
      have HKZ := Lib.hid (HK4.out.trans hk)
      clear hk
      go_wp2
      go_ret
      exact ⟨rfl, HKZ.out⟩
    have e1 : decide ((l.length : Int) > 100) = false := decide_eq_false (by omega)
    by_cases h2 : 60 < chs.length
    case pos =>
      have e2 : decide ((chs.length : Int) > 60) = true := decide_eq_true (by omega)
      clear h1 h2
      go_wp2_with fail
      refine (alive_any w4).mono ?_
      rintro e wz ⟨rfl, hk⟩
      have HKZ := Lib.hid (HK4.out.trans hk)
      clear hk
      go_wp2
      go_ret
      exact ⟨rfl, HKZ.out⟩
    have e2 : decide ((chs.length : Int) > 60) = false := decide_eq_false (by omega)
    have hv := HV.out (by omega)
    by_cases h3 : 200 < chs.flatten.length
    case pos =>
      have e3 : decide (v > 200) = true := decide_eq_true (by omega)
      clear h1 h2 h3 hv
      go_wp2_with fail
      refine (alive_any w4).mono ?_
      rintro e wz ⟨rfl, hk⟩
      have HKZ := Lib.hid (HK4.out.trans hk)
      clear hk
      go_wp2
      go_ret
      exact ⟨rfl, HKZ.out⟩
    have e3 : decide (v > 200) = false := decide_eq_false (by omega)
    have hl100 : l.length ≤ 100 := by omega
    have hc60 : chs.length ≤ 60 := by omega
    have HF200 : Hid (chs.flatten.length ≤ 200) := Lib.hid (by omega)
    have HLN := Lib.hid (from_len l chs hl100)
    have HCK : Hid ((FromF l chs).2 = 0 → chk (FromF l chs).1 = 0) := Lib.hid from_chk
    clear h1 h2 h3 hv HV HFL HLC
    go_wp2_with fail
    clear b0 b1 bb d0 db e1 e2 e3
    have hF := From_any l so sc xo xn xc chs co cc w4 (HS.out.kept HK4.out) (HC.out.kept HK4.out) hl100 hc60 HF200.out HWC.out HWS.out
    have hF2 := fun (X : World) (hX : Kept w4 X) => RFrom_any2 l so sc xo xn xc chs co cc X ((HS.out.kept HK4.out).kept hX) ((HC.out.kept HK4.out).kept hX) hl100 hc60 HF200.out
    have HF2 := Lib.hid hF2
    clear hF2
    obtain ⟨A, hA⟩ : ∃ A, FromF l chs = A := ⟨_, rfl⟩
    rw [hA] at hF HF2 HLN HCK
    clear hA
    obtain ⟨A, ec⟩ := A
    simp only [] at hF HLN HCK
    refine hF.mono ?_
    clear hF
    rintro e w5 ⟨ra, rc, rb, rd, rfl, hva, hvb, hk5⟩
    have IRA : Hid (IsProb w5 A ra rb) := Lib.hid ⟨hva, hvb, by have := HLN.out.1; omega, by have := HLN.out.2; omega⟩
    obtain ⟨w6, e6, hk6, hb6, -⟩ := alloc_prob w5 A.N A.arcs A.near ra rc rb rd
    obtain ⟨tr, htr⟩ : ∃ x, w5.heap.size = x := ⟨_, rfl⟩
    rw [htr] at hb6
    have XRA := Lib.hid hb6
    have IRA6 := Lib.hid (IRA.out.kept hk6)
    have HK6 := Lib.hid (hk5.trans hk6)
    clear hva hvb hk5 hk6 hb6 IRA
    have b0 := HK6.out.cell HB0.out.1
    have b1 := HK6.out.cell HB0.out.2
    have bb := lt_of_cell b0
    have d0 := HK6.out.cell HD0.out
    have db := lt_of_cell d0
    go_wp2_with fail
    clear b0 b1 bb d0 db e6 htr
    refine (HF2.out w6 HK6.out).mono ?_
    rintro e w7 ⟨sa, sd, sb, se, rfl, hva, hvb, hk7⟩
    have ISA : Hid (IsProb w7 A sa sb) := Lib.hid ⟨hva, hvb, by have := HLN.out.1; omega, by have := HLN.out.2; omega⟩
    obtain ⟨w8, e8, hk8, hb8, -⟩ := alloc_prob w7 A.N A.arcs A.near sa sd sb se
    obtain ⟨ts, hts⟩ : ∃ x, w7.heap.size = x := ⟨_, rfl⟩
    rw [hts] at hb8
    have XSA := Lib.hid hb8
    have HK78 := Lib.hid (hk7.trans hk8)
    have ISA8 := Lib.hid (ISA.out.kept hk8)
    have IRA8 := Lib.hid (IRA6.out.kept (hk7.trans hk8))
    have XRA8 := Lib.hid (XRA.out.kept (hk7.trans hk8))
    have HKA := Lib.hid (HK4.out.trans (HK6.out.trans (hk7.trans hk8)))
    clear hva hvb hk7 hk8 hb8 ISA IRA6 XRA HK78
    have ee : (ec == ec) = true := by simp
    go_wp2_with fail
    clear e8 hts
    refine (alive_any w8).mono ?_
    rintro e w9 ⟨rfl, hk9⟩
    have HK9 := Lib.hid hk9
    have IRA9 := Lib.hid (IRA8.out.kept hk9)
    have ISA9 := Lib.hid (ISA8.out.kept hk9)
    have XRA9 := Lib.hid (XRA8.out.kept hk9)
    have HKB := Lib.hid (HKA.out.trans hk9)
    obtain ⟨p0, p1, p2⟩ := XRA8.out.kept hk9
    have pb := lt_of_cell p0
    obtain ⟨q0, q1, q2⟩ := XSA.out.kept hk9
    have qb := lt_of_cell q0
    clear hk9
    go_wp2_with fail
    clear p0 p1 p2 pb q0 q1 q2 qb ee
    refine (Same_any A ra rb sa sb rc rd sd se w9 IRA9.out ISA9.out).mono ?_
    rintro e w10 ⟨rfl, hk10⟩
    have IRA10 := Lib.hid (IRA9.out.kept hk10)
    have HKC := Lib.hid (HKB.out.trans hk10)
    have XRA10 := Lib.hid (XRA9.out.kept hk10)
    clear hk10
    by_cases hec : ec = 0
    case neg =>
      have e1 : (ec != 0) = true := by simp [hec]
      clear hec
      go_wp2
      go_ret
      exact ⟨rfl, HKC.out⟩
    have e1 : (ec != 0) = false := by simp [hec]
    have HC0 : Hid (chk A = 0) := Lib.hid (HCK.out hec)
    clear hec
    obtain ⟨p0, p1, p2⟩ := XRA10.out
    have pb := lt_of_cell p0
    go_wp2_with fail
    clear p0 p1 p2 pb e1
    have hF := Check_any A ra rb rc rd w10 IRA10.out
    rw [HC0.out] at hF
    refine hF.mono ?_
    clear hF
    rintro e w11 ⟨rfl, hk11⟩
    have HKD := Lib.hid (HKC.out.trans hk11)
    clear hk11
    go_wp2
    go_ret
    exact ⟨rfl, HKD.out⟩
end Go.Proofs.Yteljjkghjbofnaa
