/- order.Least: the search for the fewest arcs. -/
import Derived.Test.YteljjkghjbofnaaWd
set_option maxRecDepth 100000
namespace Go.Proofs.Yteljjkghjbofnaa
open Go Go.Proofs Go.RowKit
attribute [local go_sem] Oper.semAt_some

def takeV (ob gb tb : Nat) : Value := .func (.func 120) #[] #[.pointer (some ⟨ob, 0, none⟩), .pointer (some ⟨gb, 0, none⟩), .pointer (some ⟨tb, 0, none⟩)]
/-- What the search looks into: the problem's box, the flags, itself. -/
structure TakeS (w0 : World) (ob gb tb G : Nat) (o : Prob) (ao : Option Addr) (ca : Nat) (bo : Option Addr) (cb : Nat) (ch : List Nat) (X : World) : Prop where
  kw : Kept w0 X
  box : ProbBox X ob o ao ca bo cb
  gs : X.cell? ⟨gb, 0, none⟩ = some (.slice (some ⟨G, 0, none⟩) o.arcs.length o.arcs.length)
  tk : X.cell? ⟨tb, 0, none⟩ = some (takeV ob gb tb)
  gone : ∀ i, i < o.arcs.length → X.cell? ⟨G, i, none⟩ = some (.bool (decide (i ∈ ch)))
  gf : ∀ k, X.frozen? ⟨G, k, none⟩ = false
  lt : G < X.heap.size
section
variable {w0 X Y : World} {ob gb tb G : Nat} {o : Prob} {ao bo : Option Addr} {ca cb : Nat} {ch : List Nat}
theorem TakeS.kept (h : TakeS w0 ob gb tb G o ao ca bo cb ch X) (hk : Kept X Y) : TakeS w0 ob gb tb G o ao ca bo cb ch Y :=
  ⟨h.kw.trans hk, h.box.kept hk, hk.cell h.gs, hk.cell h.tk, fun i hi => hk.cell (h.gone i hi), fun k => (hk.cells.2 G k h.lt).trans (h.gf k), Nat.lt_of_lt_of_le h.lt hk.size⟩
theorem ProbBox.setNe {b g k : Nat} {u : Value} (h : ProbBox X b o ao ca bo cb) (hne : b ≠ g) : ProbBox (X.setCell ⟨g, k, none⟩ u) b o ao ca bo cb := by
  obtain ⟨h0, h1, h2⟩ := h
  exact ⟨cell_set_block h0 hne, cell_set_block h1 hne, cell_set_block h2 hne⟩
theorem TakeS.set (h : TakeS w0 ob gb tb G o ao ca bo cb ch X) (hne : ob ≠ G ∧ gb ≠ G ∧ tb ≠ G) (hw : w0.heap.size ≤ G) {ch' : List Nat} {i : Nat} {b : Bool} (hi : i < o.arcs.length) (hc : ∀ j, decide (j ∈ ch') = if j = i then b else decide (j ∈ ch)) : TakeS w0 ob gb tb G o ao ca bo cb ch' (X.setCell ⟨G, i, none⟩ (.bool b)) := by
  refine ⟨h.kw.setCell (p := ⟨G, i, none⟩) hw _, h.box.setNe hne.1, cell_set_block h.gs hne.2.1, cell_set_block h.tk hne.2.2, fun j hj => ?_, fun k => by rw [World.frozen?_setCell]; exact h.gf k, by simpa [World.setCell] using h.lt⟩
  rw [cell_set_or (h.gone j hj), hc]
  by_cases e : j = i
  · subst e; simp
  · have e' : ¬ (⟨G, j, none⟩ : Addr) = ⟨G, i, none⟩ := fun h => e (by injection h)
    simp [e]
end
def TakePost (w0 : World) (ob gb tb G : Nat) (o : Prob) (ao : Option Addr) (ca : Nat) (bo : Option Addr) (cb : Nat) (ch : List Nat) (r : Option (List Nat)) (e : Ending) (w' : World) : Prop := e = .returned (.bool r.isSome) ∧ TakeS w0 ob gb tb G o ao ca bo cb (r.getD ch) w'

set_option maxHeartbeats 2000000 in
theorem take_any (w0 : World) (ob gb tb G : Nat) (o : Prob) (ao bo : Option Addr) (ca cb : Nat) (hp0 : IsProb w0 o ao bo) (hck : chk o = 0) (hm : o.arcs.length ≤ 16) (hne : ob ≠ G ∧ gb ≠ G ∧ tb ≠ G) (hwG : w0.heap.size ≤ G) : ∀ (k f : Nat) (ch : List Nat) (w : World), k ≤ 16 → f ≤ 17 → (∀ x ∈ ch, x < f) → TakeS w0 ob gb tb G o ao ca bo cb ch w →
    Calls Try.prog 120 #[.int .i64 f, .int .i64 k, .pointer (some ⟨ob, 0, none⟩), .pointer (some ⟨gb, 0, none⟩), .pointer (some ⟨tb, 0, none⟩)] w (TakePost w0 ob gb tb G o ao ca bo cb ch (takeF (okC o) o.arcs.length k f ch)) := by
  have HP0 := Lib.hid hp0
  have HC := Lib.hid hck
  have HNE := Lib.hid hne
  clear hp0 hck
  intro k
  induction k with
  | zero =>
    intro f ch w hk hf hch ht
    rw [show ((0 : Nat) : Int) = 0 from rfl]
    have HT := Lib.hid ht
    obtain ⟨r, hr⟩ : ∃ r, takeF (okC o) o.arcs.length 0 f ch = r := ⟨_, rfl⟩
    rw [hr]
    have HR : Hid ((if okC o ch = true then some ch else none) = r) := Lib.hid hr
    clear hr ht hch
    obtain ⟨q0, q1, q2⟩ := HT.out.box
    have qb := lt_of_cell q0
    go_enter Try.func120, Try.ntmps120
    go_wp2
    clear q0 q1 q2 qb
    have hpb := PBox.new w o.N (.slice none 0 0) (.slice none 0 0)
    have hka : Kept w (w.alloc (.cells #[.int .i64 o.N, .slice none 0 0, .slice none 0 0] 24)) := (Kept.refl _).alloc _
    have hsz : (w.alloc (.cells #[.int .i64 o.N, .slice none 0 0, .slice none 0 0] 24)).heap.size = w.heap.size + 1 := by simp
    generalize w.alloc (.cells #[.int .i64 o.N, .slice none 0 0, .slice none 0 0] 24) = w1 at *
    obtain ⟨bx, hbx⟩ : ∃ bx, w.heap.size = bx := ⟨_, rfl⟩
    rw [hbx] at hpb hsz ⊢
    have HPB := Lib.hid hpb
    have HSZ := Lib.hid hsz
    have HT1 := Lib.hid (HT.out.kept hka)
    have HB : Hid (ob < bx ∧ gb < bx ∧ tb < bx ∧ G < bx) := Lib.hid (by
      rw [← hbx]
      exact ⟨lt_of_cell HT.out.box.1, lt_of_cell HT.out.gs, lt_of_cell HT.out.tk, HT.out.lt⟩)
    have HW0 : Hid (w0.heap.size ≤ bx) := Lib.hid (by rw [← hbx]; exact HT.out.kw.size)
    clear hpb hsz hka hbx HT
    have HTR : Hid (∀ Y, Kept w0 Y → FrX w1 Y bx → TakeS w0 ob gb tb G o ao ca bo cb ch Y) := Lib.hid fun Y hk hf => by
      have hb := HB.out
      obtain ⟨b0, b1, b2⟩ := HT1.out.box
      exact ⟨hk, ⟨hf.cell _ _ _ (by omega) b0, hf.cell _ _ _ (by omega) b1, hf.cell _ _ _ (by omega) b2⟩, hf.cell _ _ _ (by omega) HT1.out.gs, hf.cell _ _ _ (by omega) HT1.out.tk, fun i hi => hf.cell _ _ _ (by omega) (HT1.out.gone i hi), fun k => (hf.fz G k HT1.out.lt (by omega)).trans (HT1.out.gf k), Nat.lt_of_lt_of_le HT1.out.lt hf.size⟩
    go_loopw [20] (fun i wr => ∃ (a : Nat) (va : Value), a ≤ o.arcs.length ∧ i = .int .i64 a ∧ Kept w0 wr ∧ FrX w1 wr bx ∧ PBox wr bx o.N va (.slice none 0 0) ∧ OwnG wr w1.heap.size 83 2 pairC va (keepT o.arcs ch a)) (fun i _ => o.arcs.length - (intOf i).toNat)
    case atStart => exact ⟨0, _, Nat.zero_le _, rfl, HT1.out.kw, FrX.refl _ _, HPB.out, OwnG.nil _ _ _ _ _⟩
    case round =>
      obtain ⟨a, va, ha, rfl, hk, hfr, hbc, hoa⟩ := hrel
      have HKC := Lib.hid hk
      have HFR := Lib.hid hfr
      have HBC := Lib.hid hbc
      have HOA := Lib.hid hoa
      have hts := HTR.out _ hk hfr
      have HTS := Lib.hid hts
      have g0 := hts.gs
      clear hk hfr hbc hoa
      by_cases hlt : a < o.arcs.length
      · have HL := Lib.hid hlt
        have ha16 : a < 16 := by omega
        have gg := hts.gone a hlt
        obtain ⟨B, off, rfl, c0, c1⟩ := (HP0.out.kept HKC.out).arcs a hlt
        have HKT : Hid (decide (a ∈ ch) = false → keepT o.arcs ch (a + 1) = keepT o.arcs ch a ++ [o.arcs[a]]) := Lib.hid fun h => keepT_yes hlt (of_decide_eq_false h)
        have HKN : Hid (decide (a ∈ ch) = true → keepT o.arcs ch (a + 1) = keepT o.arcs ch a) := Lib.hid fun h => keepT_no (of_decide_eq_true h)
        generalize o.arcs[a] = x at *
        obtain ⟨x1, x2⟩ := x
        simp only at c0 c1
        obtain ⟨p0, p1, p2, pf⟩ := HBC.out
        have f1 := pf 1
        have pb := lt_of_cell p0
        have hG := hts.lt
        have gl := lt_of_cell g0
        have HLN : Hid ((keepT o.arcs ch a).length < 100) := Lib.hid (by have := keepT_len o.arcs ch a; omega)
        clear pf hts
        generalize hgd : decide (a ∈ ch) = gd at *
        cases gd
        · have HK9 := Lib.hid (HKT.out rfl)
          clear HKT HKN hgd
          generalize keepT o.arcs ch a = pre at *
          have hKK : Kept wr ((wr.alloc (.cells #[.int .i64 x1, .int .i64 x2] 83)).alloc (.cells #[.int .i64 x1, .int .i64 x2] 83)) := ((Kept.refl _).alloc _).alloc _
          have HKK := Lib.hid hKK
          have hnew : ∀ j u, ([(x1, x2)].flatMap pairC)[j]? = some u → ((wr.alloc (.cells #[.int .i64 x1, .int .i64 x2] 83)).alloc (.cells #[.int .i64 x1, .int .i64 x2] 83)).cell? ⟨wr.heap.size + 1, j, none⟩ = some u := fun j u hu => by
            have h := pair_newA (wr.alloc (.cells #[.int .i64 x1, .int .i64 x2] 83)) (x1, x2) j u hu
            rw [show (wr.alloc (.cells #[.int .i64 x1, .int .i64 x2] 83)).heap.size = wr.heap.size + 1 by simp] at h
            exact h
          have HNEW := Lib.hid hnew
          have HBS : Hid (w1.heap.size ≤ wr.heap.size) := Lib.hid HFR.out.size
          clear hKK hnew
          go_wp2_with (at_builtin; refine append_g _ rfl _ _ 22 rfl w1.heap.size 83 2 16 _ pairC pairC_len pairC_one Try.underlying22 info83 rfl (by decide) (by decide) va pre rfl (HOA.out.kept HKK.out) (wr.heap.size + 1) 1 [(x1, x2)] rfl HNEW.out (by have := HLN.out; simp only [List.length_cons, List.length_nil]; omega) (by have := HBS.out; simp; omega) ?_; intro v' w8 hown4 hg4 _; obtain ⟨xa, xc, rfl, -, -⟩ := hown4.prs; have HO4 := Lib.hid hown4; have HG4 := Lib.hid hg4; have HB4 : Hid (PBox w8 bx o.N va (.slice none 0 0)) := Lib.hid ((HBC.out.kept HKK.out).grownNe hg4 (fun e => by have := (HOA.out.lt bx e.symm).1; have := HSZ.out; omega)); clear p0 p1 p2 f1 pb hown4 hg4 g0 gg gl c0 c1 hG; obtain ⟨p0, p1, p2, pf⟩ := HB4.out; have f1 := pf 1; have pb := lt_of_cell p0; clear pf)
          go_roundw
          case measure => have := HL.out; simp [intOf] <;> omega
          case rel =>
            have hne6 : ∀ j, va.ownBlock = some j → w1.heap.size ≤ j := fun j e => (HOA.out.lt j e).1
            have hsz := HSZ.out
            have hw0 := HW0.out
            refine ⟨a + 1, .slice xa (pre.length + 1) xc, HL.out, by go_num, ?_, ?_, ?_, ?_⟩
            · exact ((HKC.out.trans HKK.out).grown HG4.out (fun r e => by have := hne6 r e; omega)).setCell (p := ⟨bx, 1, none⟩) (by show _ ≤ bx; omega) _
            · exact HFR.out.step HKK.out HG4.out (fun r e => hne6 r e) _ _
            · exact HB4.out.set1 _
            · have h4 := HO4.out
              simp only [List.length_append, List.length_cons, List.length_nil, Nat.zero_add] at h4
              rw [HK9.out]
              exact h4.setBelow (by show bx < _; omega) _
        · have HK9 := Lib.hid (HKN.out rfl)
          clear HKT HKN hgd
          go_wp2
          go_roundw
          case measure => have := HL.out; simp [intOf] <;> omega
          case rel =>
            have hKK : Kept wr (wr.alloc (.cells #[.int .i64 x1, .int .i64 x2] 83)) := (Kept.refl _).alloc _
            exact ⟨a + 1, va, HL.out, by go_num, HKC.out.trans hKK, HFR.out.kept hKK, HBC.out.kept hKK, by rw [HK9.out]; exact HOA.out.kept hKK⟩
      · obtain rfl : a = o.arcs.length := by omega
        have hoa := HOA.out
        obtain ⟨xa, xc, rfl, hpx, -⟩ := hoa.prs
        have HPX := Lib.hid hpx
        have hchk : chk ⟨o.N, keepT o.arcs ch o.arcs.length, []⟩ = 0 := chk_bare (chk_keep HC.out ch)
        have HCK := Lib.hid hchk
        have HLN := Lib.hid (keepT_len o.arcs ch o.arcs.length)
        obtain ⟨cc, hcc⟩ : ∃ cc, circB (webOf ⟨o.N, keepT o.arcs ch o.arcs.length, []⟩) = cc := ⟨_, rfl⟩
        have HCC := Lib.hid hcc
        have HOK : Hid (okC o ch = !cc) := Lib.hid (by unfold okC; rw [hcc])
        have HIP : Hid (IsProb wr ⟨o.N, keepT o.arcs ch o.arcs.length, []⟩ xa none) := Lib.hid ⟨hpx, Pairs.nil _ _, by show (keepT o.arcs ch o.arcs.length).length < _; have := HLN.out; omega, by show 0 < _; omega⟩
        obtain ⟨p0, p1, p2, pf⟩ := HBC.out
        have pb := lt_of_cell p0
        have e1 : decide ((o.arcs.length : Int) < (o.arcs.length : Int)) = false := decide_eq_false (by omega)
        clear hoa hpx hchk hcc hlt ha hts g0 pf
        generalize keepT o.arcs ch o.arcs.length = kp at *
        go_wp2_with fail
        clear p0 p1 p2 pb e1
        have hF := woven_any ⟨o.N, kp, []⟩ xa none xc 0 wr HIP.out HCK.out
        refine hF.mono ?_
        clear hF
        rintro e w5 ⟨b, rfl, hwb, hk5⟩
        have HWB := Lib.hid hwb
        have HK5 := Lib.hid hk5
        clear hwb hk5
        go_wp2_with fail
        have hF := circular_any b (webOf ⟨o.N, kp, []⟩) w5 HWB.out (webOf_n HCK.out)
        rw [HCC.out] at hF
        refine hF.mono ?_
        clear hF
        rintro e w6 ⟨rfl, rfl⟩
        have HTF := Lib.hid ((HTR.out _ HKC.out HFR.out).kept HK5.out)
        cases cc
        · have HRR : Hid (some ch = r) := Lib.hid (by rw [← HR.out, HOK.out]; simp)
          go_wp2
          go_ret
          rw [← HRR.out]
          exact ⟨rfl, HTF.out⟩
        · have HRR : Hid (none = r) := Lib.hid (by rw [← HR.out, HOK.out]; simp)
          go_wp2
          go_ret
          rw [← HRR.out]
          exact ⟨rfl, HTF.out⟩
  | succ k ih =>
    intro f ch w hk hf hch ht
    have HIH := Lib.hid ih
    clear ih
    rw [show ((k + 1 : Nat) : Int) = (k : Int) + 1 from rfl]
    have HT := Lib.hid ht
    have HCH := Lib.hid hch
    obtain ⟨r, hr⟩ : ∃ r, takeF (okC o) o.arcs.length (k + 1) f ch = r := ⟨_, rfl⟩
    rw [hr]
    have HR : Hid (firstO (fun i => takeF (okC o) o.arcs.length k (i + 1) (ch ++ [i])) (List.range' f (o.arcs.length - k - f)) = r) := Lib.hid hr
    have e0 : ((k : Int) + 1 == 0) = false := by simp; omega
    clear hr ht hch
    go_enter Try.func120, Try.ntmps120
    go_wp2
    clear e0
    have hsub : wrap64 ((o.arcs.length : Int) - ((k : Int) + 1)) = (o.arcs.length : Int) - ((k : Int) + 1) := IntWalk.wrap64_in _ (by omega)
    go_loopw [11] (fun iv wr => ∃ i : Nat, f ≤ i ∧ i ≤ 17 ∧ iv = .int .i64 i ∧ (∀ j, f ≤ j → j < i → takeF (okC o) o.arcs.length k (j + 1) (ch ++ [j]) = none) ∧ TakeS w0 ob gb tb G o ao ca bo cb ch wr) (fun i _ => 18 - (intOf i).toNat)
    case atStart => exact ⟨f, Nat.le_refl _, hf, rfl, fun j h1 h2 => by omega, HT.out⟩
    case round =>
      obtain ⟨i, hfi, hi17, rfl, hno, hts⟩ := hrel
      have HTS := Lib.hid hts
      have HNO := Lib.hid hno
      have HFI := Lib.hid hfi
      have g0 := hts.gs
      have gl := lt_of_cell g0
      clear hno
      by_cases hlt : i + k < o.arcs.length
      · have hle : decide ((i : Int) ≤ (o.arcs.length : Int) - ((k : Int) + 1)) = true := decide_eq_true (by omega)
        have him : i < o.arcs.length := by omega
        have gi := hts.gone i him
        have gfi := hts.gf i
        have gG := hts.lt
        have t0 := hts.tk
        have htn : tb ≠ G := HNE.out.2.2
        have hgn : gb ≠ G := HNE.out.2.1
        have HIM := Lib.hid him
        have hi16 : i < 16 := by omega
        unfold takeV at t0
        have HLT := Lib.hid hlt
        clear hts hlt
        go_wp2_with fail
        have HT1 : Hid (TakeS w0 ob gb tb G o ao ca bo cb (ch ++ [i]) (wr.setCell ⟨G, i, none⟩ (.bool true))) := Lib.hid (HTS.out.set HNE.out hwG HIM.out (fun j => by
          by_cases e : j = i
          · subst e; simp
          · simp [e]))
        have hF := HIH.out (i + 1) (ch ++ [i]) _ (by omega) (by omega) (fun x hx => by
          rcases List.mem_append.1 hx with h | h
          · have := HCH.out x h; have := HFI.out; omega
          · simp at h; omega) HT1.out
        rw [show ((i + 1 : Nat) : Int) = (i : Int) + 1 from rfl] at hF
        obtain ⟨q, hq⟩ : ∃ q, takeF (okC o) o.arcs.length k (i + 1) (ch ++ [i]) = q := ⟨_, rfl⟩
        rw [hq] at hF
        have HQ := Lib.hid hq
        clear hq g0 gl gi gfi gG t0 htn hgn
        refine hF.mono ?_
        clear hF
        rintro e w5 ⟨rfl, hts5⟩
        cases q with
        | none =>
          simp only [Option.isSome_none, Option.getD_none] at hts5 ⊢
          have HT6 : Hid (TakeS w0 ob gb tb G o ao ca bo cb ch (w5.setCell ⟨G, i, none⟩ (.bool false))) := Lib.hid (hts5.set HNE.out hwG HIM.out (fun j => by
            by_cases e : j = i
            · subst e
              rw [if_pos rfl]
              exact decide_eq_false (fun h => by have := HCH.out j h; have := HFI.out; omega)
            · simp [e]))
          have HNN : Hid (∀ j, f ≤ j → j < i + 1 → takeF (okC o) o.arcs.length k (j + 1) (ch ++ [j]) = none) := Lib.hid fun j h1 h2 => by
            by_cases e : j = i
            · subst e; exact HQ.out
            · exact HNO.out j h1 (by omega)
          have g0 := hts5.gs
          have gl := lt_of_cell g0
          have gi := hts5.gone i him
          have gfi := hts5.gf i
          have gG := hts5.lt
          clear hts5
          go_wp2
          go_roundw
          case measure => simp [intOf] <;> omega
          case rel => exact ⟨i + 1, by have := HFI.out; omega, by omega, by go_num, HNN.out, HT6.out⟩
        | some l =>
          simp only [Option.isSome_some, Option.getD_some] at hts5 ⊢
          have HT5 := Lib.hid hts5
          have HRR : Hid (some l = r) := Lib.hid (by
            rw [← HR.out]
            have e : List.range' f (o.arcs.length - k - f) = List.range' f (i - f) ++ i :: List.range' (i + 1) (o.arcs.length - k - i - 1) := by
              have h1 := HFI.out
              have h2 := HLT.out
              have e2 : List.range' i (o.arcs.length - k - i) = i :: List.range' (i + 1) (o.arcs.length - k - i - 1) := by
                rw [show o.arcs.length - k - i = (o.arcs.length - k - i - 1) + 1 by omega, List.range'_succ]
                rfl
              rw [← e2]
              have h3 := List.range'_append_1 (s := f) (m := i - f) (n := o.arcs.length - k - i)
              rw [show f + (i - f) = i by omega, show i - f + (o.arcs.length - k - i) = o.arcs.length - k - f by omega] at h3
              exact h3.symm
            rw [e]
            exact (firstO_at HQ.out (fun x hx => by
              rw [List.mem_range'_1] at hx
              exact HNO.out x hx.1 (by omega))).symm)
          clear hts5
          go_wp2
          go_ret
          rw [← HRR.out]
          exact ⟨rfl, HT5.out⟩
      · have hle : decide ((i : Int) ≤ (o.arcs.length : Int) - ((k : Int) + 1)) = false := decide_eq_false (by omega)
        have HRR : Hid (none = r) := Lib.hid (by
          rw [← HR.out]
          symm
          rw [firstO_none]
          intro j hj
          rw [List.mem_range'_1] at hj
          exact HNO.out j hj.1 (by omega))
        clear hlt hts
        go_wp2
        go_ret
        rw [← HRR.out]
        exact ⟨rfl, HTS.out⟩
end Go.Proofs.Yteljjkghjbofnaa
