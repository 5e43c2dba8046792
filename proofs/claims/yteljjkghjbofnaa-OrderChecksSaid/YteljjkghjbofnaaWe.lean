/- Arrays of the call's own; days. -/
import Derived.Test.YteljjkghjbofnaaWd
set_option maxRecDepth 100000
namespace Go.Proofs.Yteljjkghjbofnaa
open Go Go.Proofs Go.RowKit

/-! ### A block of numbers of the call's own -/

structure Arr (w : World) (g : Nat) (xs : List Int) : Prop where
  lt : g < w.heap.size
  get : ∀ i, (h : i < xs.length) → w.cell? ⟨g, i, none⟩ = some (.int .i64 xs[i])
  free : ∀ o, w.frozen? ⟨g, o, none⟩ = false

theorem Arr.kept {w w' : World} {g : Nat} {xs : List Int} (h : Arr w g xs) (hk : Kept w w') : Arr w' g xs :=
  ⟨Nat.lt_of_lt_of_le h.lt hk.size, fun i hi => hk.cell (h.get i hi), fun o => (hk.cells.2 g o h.lt).trans (h.free o)⟩
theorem Arr.setOther {w : World} {g b o : Nat} {xs : List Int} {u : Value} (h : Arr w g xs) (hne : g ≠ b) : Arr (w.setCell ⟨b, o, none⟩ u) g xs :=
  ⟨by simpa [World.setCell] using h.lt, fun i hi => cell_set_block (h.get i hi) hne, fun o => by rw [World.frozen?_setCell]; exact h.free o⟩
theorem Arr.set {w : World} {g i : Nat} {xs : List Int} (h : Arr w g xs) (x : Int) : Arr (w.setCell ⟨g, i, none⟩ (.int .i64 x)) g (xs.set i x) :=
  ⟨by simpa [World.setCell] using h.lt, fun j hj => by
    rw [cell_set_or (h.get j (by simpa using hj)), List.getElem_set]
    by_cases e : j = i
    · simp [e]
    · rw [if_neg e, if_neg (Ne.symm e)], fun o => by rw [World.frozen?_setCell]; exact h.free o⟩
theorem Arr.ints {w : World} {g : Nat} {xs : List Int} (h : Arr w g xs) : Ints w (some ⟨g, 0, none⟩) xs := fun i hi => ⟨g, 0, rfl, by rw [Nat.zero_add]; exact h.get i hi⟩

theorem info3 : (Try.prog.info? 3).map (fun i => (i.zero, i.size, i.bytes)) = some (some (.int .i64 0), 1, 8) := by kernel_rfl

theorem kept_of_grown {w w' : World} (h : w.grownBy w' none) : Kept w w' :=
  ⟨h.os, h.tape, h.output, h.size, fun k hk => h.block k hk (by simp)⟩

/-- make([]int, n). -/
theorem make_ints {ops : Array Oper} {rest : List Oper} {o : Oper} {a : Act} {Q : Exit → Act → World → Prop} (w : World)
    (hg : o.guard = none) (l c : Operand) (hop : o.op = Op.makeSlice 31 l c) (n : Nat) (hl : a.eval l = .int .i64 n) (hc : a.eval c = .int .i64 n) (hn : n < 1099511627776)
    (hK : ∀ w', Arr w' w.heap.size (List.replicate n 0) → Kept w w' → wpList Try.prog ops Q rest (a.put o.dst (.slice (some ⟨w.heap.size, 0, none⟩) n n)) w') :
    wpList Try.prog ops Q (o :: rest) a w := by
  obtain ⟨i0, hi, hz0, hz1, hz2⟩ := info_parts info3
  refine wpList_make_full w hg l c 31 hop w.heap.size 3 i0 (.int .i64 0) 1 Try.underlying31 hi hz0 hz1 .i64 .i64 n n n hl hc rfl rfl (by rw [hz2]; omega) (by unfold maxLen; omega) (Nat.le_refl _) ?_
  intro w' hown hgrow
  refine hK w' ?_ (kept_of_grown hgrow)
  rcases hown.2 with ⟨h, _⟩ | ⟨g, cap, cur, hv, hbg, hgg, hnc, hcm, hcs, htake⟩
  · cases h
  · simp only [Value.slice.injEq, Option.some.injEq, Addr.mk.injEq] at hv
    obtain ⟨⟨rfl, -, -⟩, -, rfl⟩ := hv
    refine ⟨(Array.getElem?_eq_some_iff.1 hgg).1, fun i h => ?_, fun o => frozen_of_row _ _ _ _ _ hgg⟩
    rw [cell_of_row _ _ _ _ _ _ hgg]
    have : cur.toList[i]? = some (.int .i64 0) := by
      have hlt : i < n * 1 := by simpa using h
      have e : (cur.toList.take (n * 1))[i]? = cur.toList[i]? := by rw [List.getElem?_take, if_pos hlt]
      rw [← e, htake]
      simp [madeCells]
      exact ⟨i, List.getElem?_range (by simpa using h), by simp [Value.cells, Nat.mod_one]⟩
    simpa using this

/-! ### days -/

def dayFirst (l : List Int) (i : Nat) (out : List Int) : List Int :=
  if 0 < i then out.set (l.getD i 0).toNat (out.getD (l.getD (i - 1) 0).toNat 0 + 1) else out
def dayNear (W : Web) (dry : Int) (p : Nat) (out : List Int) (q : Int) : List Int :=
  if hasS (W.near p) q.toNat then out.set p (max (out.getD p 0) (out.getD q.toNat 0 + dry + 1)) else out
def dayStep (W : Web) (dry : Int) (l : List Int) (out : List Int) (i : Nat) : List Int :=
  (l.take i).foldl (dayNear W dry (l.getD i 0).toNat) (dayFirst l i out)
def daysPart (W : Web) (dry : Int) (l : List Int) (k : Nat) : List Int := (List.range k).foldl (dayStep W dry l) (List.replicate W.n 0)
/-- The earliest days of an order. -/
def daysOf (W : Web) (dry : Int) (l : List Int) : List Int := daysPart W dry l l.length

theorem daysPart_succ (W : Web) (dry : Int) (l : List Int) (k : Nat) : daysPart W dry l (k + 1) = dayStep W dry l (daysPart W dry l k) k := by
  simp [daysPart, List.range_succ]

/-- A row of n numbers from 0 to B. -/
def Row (n : Nat) (B : Int) (out : List Int) : Prop := out.length = n ∧ ∀ x ∈ out, 0 ≤ x ∧ x ≤ B

theorem Row.set {n : Nat} {B : Int} {out : List Int} (h : Row n B out) (p : Nat) {x : Int} (hx : 0 ≤ x ∧ x ≤ B) : Row n B (out.set p x) :=
  ⟨by simpa using h.1, fun y hy => by rcases List.mem_or_eq_of_mem_set hy with hy | rfl; exact h.2 y hy; exact hx⟩
theorem Row.mono {n : Nat} {B B' : Int} {out : List Int} (h : Row n B out) (hB : B ≤ B') : Row n B' out := ⟨h.1, fun x hx => ⟨(h.2 x hx).1, Int.le_trans (h.2 x hx).2 hB⟩⟩
theorem Row.getD {n : Nat} {B : Int} {out : List Int} (h : Row n B out) (hB : 0 ≤ B) (p : Nat) : 0 ≤ out.getD p 0 ∧ out.getD p 0 ≤ B := by
  rw [List.getD_eq_getElem?_getD]
  by_cases hp : p < out.length
  · rw [List.getElem?_eq_getElem hp]; exact h.2 _ (List.getElem_mem hp)
  · rw [List.getElem?_eq_none (by omega)]; simp; exact hB
theorem Row.first {n : Nat} {B : Int} {out : List Int} (h : Row n B out) (hB : 0 ≤ B) (l : List Int) (i : Nat) : Row n (B + 1) (dayFirst l i out) := by
  unfold dayFirst
  split
  · have := h.getD hB (l.getD (i - 1) 0).toNat
    exact (h.mono (by omega)).set _ (by omega)
  · exact h.mono (by omega)

def DaysPost (n : Nat) (xs : List Int) (w : World) (e : Ending) (w' : World) : Prop :=
  ∃ g, e = .returned (.slice (some ⟨g, 0, none⟩) n n) ∧ w.heap.size ≤ g ∧ Arr w' g xs ∧ Kept w w'

set_option maxHeartbeats 2000000 in
theorem days_any (b : Nat) (W : Web) (dry : Int) (l : List Int) (ao : Option Addr) (c : Nat) (w : World) (hw : WebAt w b W) (hn : W.n ≤ 24) (hl : Ints w ao l) (hll : l.length ≤ 24) (hlc : l.length ≤ c)
    (hin : ∀ p ∈ l, 0 ≤ p ∧ p < (W.n : Int)) (hd0 : 0 ≤ dry) (hd1 : dry ≤ 30) :
    Calls Try.prog 88 #[.pointer (some ⟨b, 0, none⟩), .int .i64 dry, .slice ao l.length c] w (DaysPost W.n (daysOf W dry l) w) := by
  have HW := Lib.hid hw
  have HL := Lib.hid hl
  have HIN := Lib.hid hin
  have hn0 := hw.n
  clear hw hl hin
  go_enter Try.func88, Try.ntmps88
  go_wp2_with (at_make; refine make_ints _ rfl _ _ rfl W.n rfl rfl (by omega) ?_; intro w1 ha1 hk1)
  have HA1 := Lib.hid ha1
  have HK1 := Lib.hid hk1
  clear ha1 hk1 hn0
  obtain ⟨g, hg⟩ : ∃ g, w.heap.size = g := ⟨_, rfl⟩
  rw [hg] at HA1 ⊢
  have HG := Lib.hid (Nat.le_of_eq hg)
  clear hg
  have hrow0 : Row W.n (1000 * ((0 : Nat) : Int)) (List.replicate W.n 0) := ⟨by simp, fun x hx => by have := List.eq_of_mem_replicate hx; omega⟩
  have HR0 := Lib.hid hrow0
  clear hrow0
  go_loopw [19] (fun i wr => ∃ k : Nat, k ≤ l.length ∧ i = .int .i64 k ∧ Kept w wr ∧ Arr wr g (daysPart W dry l k) ∧ Row W.n (1000 * (k : Int)) (daysPart W dry l k)) (fun i _ => l.length - (intOf i).toNat)
  case atStart => exact ⟨0, Nat.zero_le _, rfl, HK1.out, HA1.out, HR0.out⟩
  case round =>
    clear HK1 HA1 HR0
    obtain ⟨k, hk, rfl, hkw, harr, hrow⟩ := hrel
    have HKW := Lib.hid hkw
    by_cases hlt : k < l.length
    · obtain ⟨B, off, rfl, hc⟩ := (HL.out.kept hkw) k hlt
      obtain ⟨hp0, hp1⟩ := HIN.out l[k] (List.getElem_mem hlt)
      obtain ⟨p, hp⟩ := Int.eq_ofNat_of_zero_le hp0
      have hgp : l.getD k 0 = (p : Int) := by rw [List.getD_eq_getElem?_getD, List.getElem?_eq_getElem hlt, ← hp]; rfl
      have HGP := Lib.hid hgp
      rw [hp] at hp1 hc
      clear hp hp0 hgp hkw
      generalize hout : daysPart W dry l k = out at harr hrow
      have HOUT := Lib.hid hout
      have HROW := Lib.hid hrow
      have HARR := Lib.hid harr
      have hlen := hrow.1
      clear hout
      have hkc : k ≤ c := by omega
      rcases Nat.eq_zero_or_pos k with hk0 | hk0
      case' inl =>
        have HA2 : Hid (Arr wr g (dayFirst l k out)) := by unfold dayFirst; rw [if_neg (by omega)]; exact harr
        have HK2 := HKW
        have hkd : decide (0 < k) = false := by simp; omega
        clear harr hrow hk0
        go_wp2
        clear hkd hc
      case' inr =>
        obtain ⟨B', off', e', hc'⟩ := (HL.out.kept HKW.out) (k - 1) (by omega)
        simp only [Option.some.injEq, Addr.mk.injEq] at e'
        obtain ⟨rfl, rfl, -⟩ := e'
        obtain ⟨hq0, hq1⟩ := HIN.out l[k - 1] (List.getElem_mem (by omega))
        obtain ⟨q, hq⟩ := Int.eq_ofNat_of_zero_le hq0
        have hgq : l.getD (k - 1) 0 = (q : Int) := by rw [List.getD_eq_getElem?_getD, List.getElem?_eq_getElem (by omega), ← hq]; rfl
        have HGQ := Lib.hid hgq
        rw [hq] at hq1 hc'
        clear hq hq0 hgq
        have hcq := harr.get q (by omega)
        have hcp := harr.get p (by omega)
        have hfr := harr.free p
        have hb1 := hrow.2 out[q] (List.getElem_mem (by omega))
        have hdq : out.getD q 0 = out[q] := by rw [List.getD_eq_getElem?_getD, List.getElem?_eq_getElem]; rfl
        generalize out[q] = d at hcq hb1 hdq
        have HDQ := Lib.hid hdq
        obtain ⟨hb1, hb2⟩ := hb1
        have hd3 : d ≤ 100000 := by omega
        have hpi : (p : Int) < (W.n : Int) := hp1
        have hkd : decide (0 < k) = true := by simp; omega
        have HK0 := Lib.hid hk0
        clear harr hrow hb2 hdq
        go_wp2
        have HA2 : Hid (Arr (wr.setCell ⟨g, p, none⟩ (.int .i64 (d + 1))) g (dayFirst l k out)) := by
          unfold dayFirst
          rw [if_pos HK0.out, HGP.out, HGQ.out, Int.toNat_natCast, Int.toNat_natCast, HDQ.out]
          exact HARR.out.set _
        have HK2 := Lib.hid (HKW.out.setCell (p := ⟨g, p, none⟩) HG.out (.int .i64 (d + 1)))
        generalize (wr.setCell ⟨g, p, none⟩ (.int .i64 (d + 1))) = w2 at *
        clear hc hc' hcq hcp hfr hb1 hd3 hpi hkd hk0 HK0 HDQ HGQ hq1
      all_goals
        have HR2 := Lib.hid (HROW.out.first (by omega) l k)
        generalize hfirst : dayFirst l k out = f at *
        have HF := Lib.hid hfirst
        clear hfirst HKW HARR HROW
        go_loopw [42] (fun i wr => ∃ m : Nat, m ≤ k ∧ i = .int .i64 m ∧ Kept w wr ∧ Arr wr g ((l.take m).foldl (dayNear W dry p) f) ∧ Row W.n (1000 * (k : Int) + 1 + 31 * (m : Int)) ((l.take m).foldl (dayNear W dry p) f)) (fun i _ => k - (intOf i).toNat)
        case atStart => exact ⟨0, Nat.zero_le _, rfl, HK2.out, HA2.out, HR2.out.mono (by omega)⟩
        case round =>
          clear HK2 HA2 HR2
          obtain ⟨m, hm, rfl, hkw, harr, hrow⟩ := hrel
          have HKW := Lib.hid hkw
          clear hkw
          by_cases hltm : m < k
          · obtain ⟨B', off', e', hc'⟩ := (HL.out.kept HKW.out) m (by omega)
            simp only [Option.some.injEq, Addr.mk.injEq] at e'
            obtain ⟨rfl, rfl, -⟩ := e'
            obtain ⟨hq0, hq1⟩ := HIN.out l[m] (List.getElem_mem (by omega))
            obtain ⟨q, hq⟩ := Int.eq_ofNat_of_zero_le hq0
            have hstep : (l.take (m + 1)).foldl (dayNear W dry p) f = dayNear W dry p ((l.take m).foldl (dayNear W dry p) f) l[m] := by
              rw [List.take_succ_eq_append_getElem (by omega), List.foldl_append]; rfl
            have HST := Lib.hid hstep
            rw [hq] at hq1 hc' HST
            clear hq hq0 hstep
            generalize hcur : (l.take m).foldl (dayNear W dry p) f = cur at harr hrow HST
            have HCUR := Lib.hid hcur
            have HROW := Lib.hid hrow
            have HARR := Lib.hid harr
            have hlc := hrow.1
            have hpn : p < W.n := by omega
            have hqn : q < W.n := by omega
            have hcp := harr.get p (by omega)
            have hcq := harr.get q (by omega)
            have hfr := harr.free p
            have hbp := hrow.2 cur[p] (List.getElem_mem (by omega))
            have hbq := hrow.2 cur[q] (List.getElem_mem (by omega))
            have hdp : cur.getD p 0 = cur[p] := by rw [List.getD_eq_getElem?_getD, List.getElem?_eq_getElem]; rfl
            have hdq : cur.getD q 0 = cur[q] := by rw [List.getD_eq_getElem?_getD, List.getElem?_eq_getElem]; rfl
            generalize cur[p] = dp at hcp hbp hdp
            generalize cur[q] = dq at hcq hbq hdq
            have HDP := Lib.hid hdp
            have HDQ := Lib.hid hdq
            obtain ⟨hbp1, hbp2⟩ := hbp
            obtain ⟨hbq1, hbq2⟩ := hbq
            have hdp3 : dp ≤ 100000 := by omega
            have hdq3 : dq ≤ 100000 := by omega
            have HBD := Lib.hid (And.intro hbp2 hbq2)
            have hnr := (HW.out.kept HKW.out).near p (by omega)
            have hp24 : (p : Int) < 24 := by omega
            clear hcur hrow harr hlc hbp2 hbq2 hdp hdq
            go_wp2_with fail
            refine (has_any _ q _ (by omega)).mono ?_
            rintro e w3 ⟨rfl, rfl⟩
            cases hh : hasS (W.near p) q
            all_goals
              have HH := Lib.hid hh
              clear hh
            · go_wp2
              go_roundw
              case rel =>
                have e : dayNear W dry p cur (q : Int) = cur := by unfold dayNear; rw [Int.toNat_natCast, HH.out]; rfl
                refine ⟨m + 1, by omega, by go_num, HKW.out, ?_, ?_⟩
                · rw [HST.out, e]; exact HARR.out
                · rw [HST.out, e]; exact HROW.out.mono (by omega)
              case measure => simp [intOf]; omega
            · have hw1 : IntKind.i64.wrap (dq + dry) = dq + dry := IntWalk.i64_in _ (by omega)
              have hw2 : IntKind.i64.wrap (dq + dry + 1) = dq + dry + 1 := IntWalk.i64_in _ (by omega)
              go_wp2
              refine region_tail 14 (by kernel_rfl) (by kernel_rfl) ?_
              simp only [List.take_succ_cons, List.take_zero, List.drop_succ_cons, List.drop_zero]
              repeat still_step
              refine wpStill_nil ?_
              have e : dayNear W dry p cur (q : Int) = cur.set p (max dp (dq + dry + 1)) := by unfold dayNear; rw [Int.toNat_natCast, HH.out, HDP.out, HDQ.out]; rfl
              have HE := Lib.hid e
              clear e
              go_wp2
              go_roundw
              case rel =>
                obtain ⟨hb3, hb4⟩ := HBD.out
                have em : (if dp < dq + dry + 1 then dq + dry + 1 else dp) = max dp (dq + dry + 1) := by split <;> omega
                refine ⟨m + 1, by omega, by go_num, (HKW.out.setCell (p := ⟨g, p, none⟩) HG.out _).drew, ?_, ?_⟩
                · rw [HST.out, HE.out, em]; exact (HARR.out.set _).kept (Kept.refl _).drew
                · rw [HST.out, HE.out]; exact (HROW.out.mono (by omega)).set _ (by omega)
              case measure => simp [intOf]; omega
          · have em : m = k := by omega
            rw [em] at harr hrow
            have hfin : (l.take k).foldl (dayNear W dry p) f = daysPart W dry l (k + 1) := by
              rw [daysPart_succ, dayStep, HOUT.out, HF.out, HGP.out, Int.toNat_natCast]
            rw [hfin] at harr hrow
            have HARR := Lib.hid harr
            have HROW := Lib.hid hrow
            clear em hfin harr hrow
            go_wp2
            go_roundw
            case rel => exact ⟨k + 1, by omega, by go_num, HKW.out, HARR.out, HROW.out.mono (by omega)⟩
            case measure => simp [intOf]; omega
    · have ek : k = l.length := by omega
      rw [ek] at harr
      have HARR := Lib.hid harr
      clear harr hrow hkw ek
      go_wp2
      go_ret
      exact ⟨g, rfl, HG.out, HARR.out, HKW.out⟩

end Go.Proofs.Yteljjkghjbofnaa
