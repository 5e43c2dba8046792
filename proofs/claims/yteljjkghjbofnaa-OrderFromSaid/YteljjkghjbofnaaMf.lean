/- matched: the closure that looks for a next patch. -/
import Derived.Test.YteljjkghjbofnaaMb
import Derived.Test.YteljjkghjbofnaaMe
import Derived.Test.YteljjkghjbofnaaMd
import Derived.Lib.BitFns
import Derived.Lib.Walk
import Derived.Lib.Small
/-! matched: the closure that looks for a next patch. -/
set_option maxRecDepth 100000
namespace Go.Proofs.Yteljjkghjbofnaa
open Go Go.Proofs Go.RowKit
attribute [local go_sem] Oper.semAt_some

/-! ### What was seen -/

theorem filter_len_le {α : Type} {p q : α → Bool} : ∀ {l : List α}, (∀ x ∈ l, p x = true → q x = true) → (l.filter p).length ≤ (l.filter q).length
  | [], _ => by simp
  | z :: l, h => by
    have := filter_len_le (p := p) (q := q) (l := l) (fun u hu => h u (List.mem_cons_of_mem _ hu))
    have h1 := h z (List.mem_cons_self ..)
    simp only [List.filter_cons]
    split <;> split <;> simp_all <;> omega
theorem unseen_lt {n q : Nat} {s : S} (hn : n ≤ 32) (hq : q < n) (h : hasS s q = false) : unseen n (s ||| oneS q) < unseen n s := by
  unfold unseen
  refine filter_len_lt (fun x _ hx => ?_) (List.mem_range.2 hq) ?_ ?_
  · rw [hasS_or] at hx
    simp at hx ⊢
    exact hx.1
  · rw [hasS_or, hasS_one q q (by omega)]; simp
  · simp [h]
theorem unseen_mono {n : Nat} {s t : S} (h : ∀ x, hasS s x = true → hasS t x = true) : unseen n t ≤ unseen n s := by
  unfold unseen
  refine filter_len_le (fun x _ hx => ?_)
  cases hs : hasS s x
  · rfl
  · rw [h x hs] at hx; cases hx
theorem findGo_seen {W : Web} {some : S} {sub : Nat → MS → Bool × MS} {x : Nat} (hsub : ∀ p st, hasS st.seen x = true → hasS (sub p st).2.seen x = true) {p : Nat} : ∀ (qs : List Nat) (st : MS), hasS st.seen x = true → hasS (findGo W some sub p qs st).2.seen x = true
  | [], _, h => h
  | q :: qs, st, h => by
    have h1 : hasS (st.see q).seen x = true := by unfold MS.see; simp only [hasS_or, h, Bool.true_or]
    unfold findGo
    split
    · split
      · exact h1
      · have h2 := hsub (st.before.getD q 0).toNat (st.see q) h1
        split
        · exact h2
        · exact findGo_seen hsub qs _ h2
    · exact findGo_seen hsub qs _ h
theorem findF_seen {W : Web} {some : S} {x : Nat} : ∀ (f p : Nat) (st : MS), hasS st.seen x = true → hasS (findF W some f p st).2.seen x = true
  | 0, _, _, h => h
  | f + 1, _, _, h => findGo_seen (fun p st h => findF_seen f p st h) _ _ h

/-! ### What lies in memory -/

def findV (wb sb bb fb nb : Nat) : Value := .func (.func 155) #[] #[.pointer (some ⟨wb, 0, none⟩), .pointer (some ⟨sb, 0, none⟩), .pointer (some ⟨bb, 0, none⟩), .pointer (some ⟨fb, 0, none⟩), .pointer (some ⟨nb, 0, none⟩)]
/-- Where all lies, and that it lies apart. -/
structure FA (B wb sb bb fb nb b ks : Nat) : Prop where
  ln : B ≤ nb
  lb : B ≤ bb
  lk : B ≤ ks
  n1 : nb ≠ bb ∧ nb ≠ wb ∧ nb ≠ sb ∧ nb ≠ fb ∧ nb ≠ b
  b1 : bb ≠ wb ∧ bb ≠ sb ∧ bb ≠ fb ∧ bb ≠ b
  k1 : ks ≠ nb ∧ ks ≠ bb ∧ ks ≠ wb ∧ ks ≠ sb ∧ ks ≠ fb ∧ ks ≠ b
structure FB (wb sb bb fb nb b : Nat) (W : Web) (some_ : S) (next before : List Int) (X : World) : Prop where
  web : X.cell? ⟨wb, 0, none⟩ = some (.pointer (some ⟨b, 0, none⟩))
  set : X.cell? ⟨sb, 0, none⟩ = some (.int .u32 (sI some_))
  fn : X.cell? ⟨fb, 0, none⟩ = some (findV wb sb bb fb nb)
  at_ : WebAt X b W
  nx : Arr X nb next
  bf : Arr X bb before
structure SeenAt (ks : Nat) (s : S) (X : World) : Prop where
  cell : X.cell? ⟨ks, 0, none⟩ = some (.int .u32 (sI s))
  free : X.frozen? ⟨ks, 0, none⟩ = false

section
variable {B wb sb bb fb nb b ks : Nat} {W : Web} {some_ : S} {next before : List Int} {X Y : World} {s : S}
theorem FB.kept (h : FB wb sb bb fb nb b W some_ next before X) (hk : Kept X Y) : FB wb sb bb fb nb b W some_ next before Y := ⟨hk.cell h.web, hk.cell h.set, hk.cell h.fn, h.at_.kept hk, h.nx.kept hk, h.bf.kept hk⟩
theorem SeenAt.kept (h : SeenAt ks s X) (hk : Kept X Y) : SeenAt ks s Y := ⟨hk.cell h.cell, (hk.cells.2 ks 0 (lt_of_cell h.cell)).trans h.free⟩
theorem FB.setSeen (h : FB wb sb bb fb nb b W some_ next before X) (hf : FA B wb sb bb fb nb b ks) (u : Value) : FB wb sb bb fb nb b W some_ next before (X.setCell ⟨ks, 0, none⟩ u) :=
  ⟨cell_set_block h.web hf.k1.2.2.1.symm, cell_set_block h.set hf.k1.2.2.2.1.symm, cell_set_block h.fn hf.k1.2.2.2.2.1.symm, h.at_.setOther hf.k1.2.2.2.2.2.symm, h.nx.setOther hf.k1.1.symm, h.bf.setOther hf.k1.2.1.symm⟩
theorem SeenAt.set (h : SeenAt ks s X) (t : S) : SeenAt ks t (X.setCell ⟨ks, 0, none⟩ (.int .u32 (sI t))) := ⟨cell_set_same h.cell, by rw [World.frozen?_setCell]; exact h.free⟩
theorem SeenAt.other (h : SeenAt ks s X) {b' o : Nat} (hne : ks ≠ b') (u : Value) : SeenAt ks s (X.setCell ⟨b', o, none⟩ u) := ⟨cell_set_block h.cell hne, by rw [World.frozen?_setCell]; exact h.free⟩
theorem FB.setNext (h : FB wb sb bb fb nb b W some_ next before X) (hf : FA B wb sb bb fb nb b ks) (p : Nat) (x : Int) : FB wb sb bb fb nb b W some_ (next.set p x) before (X.setCell ⟨nb, p, none⟩ (.int .i64 x)) :=
  ⟨cell_set_block h.web hf.n1.2.1.symm, cell_set_block h.set hf.n1.2.2.1.symm, cell_set_block h.fn hf.n1.2.2.2.1.symm, h.at_.setOther hf.n1.2.2.2.2.symm, h.nx.set x, h.bf.setOther hf.n1.1.symm⟩
theorem FB.setBefore (h : FB wb sb bb fb nb b W some_ next before X) (hf : FA B wb sb bb fb nb b ks) (p : Nat) (x : Int) : FB wb sb bb fb nb b W some_ next (before.set p x) (X.setCell ⟨bb, p, none⟩ (.int .i64 x)) :=
  ⟨cell_set_block h.web hf.b1.1.symm, cell_set_block h.set hf.b1.2.1.symm, cell_set_block h.fn hf.b1.2.2.1.symm, h.at_.setOther hf.b1.2.2.2.symm, h.nx.setOther hf.n1.1, h.bf.set x⟩
end

def FindPost (B wb sb bb fb nb b ks : Nat) (W : Web) (some_ : S) (r : Bool × MS) (w : World) (e : Ending) (w' : World) : Prop :=
  e = .returned (.bool r.1) ∧ FB wb sb bb fb nb b W some_ r.2.next r.2.before w' ∧ SeenAt ks r.2.seen w' ∧ Below B w w'

theorem findGo_cons {W : Web} {some_ : S} {sub : Nat → MS → Bool × MS} {p q m : Nat} {st : MS} : findGo W some_ sub p (List.range' q (m + 1)) st = findGo W some_ sub p (q :: List.range' (q + 1) m) st := by rw [List.range'_succ]
theorem findGo_skip {W : Web} {some_ : S} {sub : Nat → MS → Bool × MS} {p q : Nat} {qs : List Nat} {st : MS} (h : wants W some_ p st q = false) : findGo W some_ sub p (q :: qs) st = findGo W some_ sub p qs st := by
  rw [findGo, if_neg (by rw [h]; simp)]
theorem findGo_take {W : Web} {some_ : S} {sub : Nat → MS → Bool × MS} {p q : Nat} {qs : List Nat} {st : MS} (h : wants W some_ p st q = true) (h0 : st.before.getD q 0 < 0) : findGo W some_ sub p (q :: qs) st = (true, (st.see q).pair p q) := by
  rw [findGo, if_pos h, if_pos h0]
theorem findGo_yes {W : Web} {some_ : S} {sub : Nat → MS → Bool × MS} {p q r : Nat} {qs : List Nat} {st : MS} (h : wants W some_ p st q = true) (h0 : st.before.getD q 0 = (r : Int)) (h1 : (sub r (st.see q)).1 = true) : findGo W some_ sub p (q :: qs) st = (true, (sub r (st.see q)).2.pair p q) := by
  rw [findGo, if_pos h, if_neg (by omega), h0, Int.toNat_natCast, if_pos h1]
theorem findGo_no {W : Web} {some_ : S} {sub : Nat → MS → Bool × MS} {p q r : Nat} {qs : List Nat} {st : MS} (h : wants W some_ p st q = true) (h0 : st.before.getD q 0 = (r : Int)) (h1 : (sub r (st.see q)).1 = false) : findGo W some_ sub p (q :: qs) st = findGo W some_ sub p qs (sub r (st.see q)).2 := by
  rw [findGo, if_pos h, if_neg (by omega), h0, Int.toNat_natCast, if_neg (by rw [h1]; simp)]

set_option maxHeartbeats 1600000 in
theorem find_any (B wb sb bb fb nb b ks : Nat) (W : Web) (some_ : S) (hn : W.n ≤ 24) (hf : FA B wb sb bb fb nb b ks) : ∀ (f p : Nat) (st : MS) (w : World), unseen W.n st.seen ≤ f → p < W.n → st.Ok W.n → FB wb sb bb fb nb b W some_ st.next st.before w → SeenAt ks st.seen w →
    Calls Try.prog 155 #[.int .i64 p, .pointer (some ⟨ks, 0, none⟩), .pointer (some ⟨wb, 0, none⟩), .pointer (some ⟨sb, 0, none⟩), .pointer (some ⟨bb, 0, none⟩), .pointer (some ⟨fb, 0, none⟩), .pointer (some ⟨nb, 0, none⟩)] w (FindPost B wb sb bb fb nb b ks W some_ (findF W some_ (f + 1) p st) w) := by
  intro f
  induction f using Nat.strongRecOn with
  | ind f ih =>
    intro p st w hu hp hok hfb hse
    have IH := Lib.hid ih
    have HFA := Lib.hid hf
    have HFB := Lib.hid hfb
    have HSE := Lib.hid hse
    have HOK := Lib.hid hok
    have HU := Lib.hid hu
    have HT : Hid (findGo W some_ (findF W some_ f) p (List.range' 0 (W.n - 0)) st = findF W some_ (f + 1) p st) := by
      show _ = _
      rw [Nat.sub_zero, ← List.range_eq_range']
      rfl
    generalize findF W some_ (f + 1) p st = T at *
    clear ih hf hok hu
    have q1 := hfb.web
    have q2 := hfb.at_.n
    clear hfb hse
    go_enter Try.func155, Try.ntmps155
    go_wp2
    clear q1 q2
    go_loopw [15] (fun i wr => ∃ (q : Nat) (st' : MS), i = .int .i64 q ∧ q ≤ W.n ∧ FB wb sb bb fb nb b W some_ st'.next st'.before wr ∧ SeenAt ks st'.seen wr ∧ Below B w wr ∧ st'.Ok W.n ∧ unseen W.n st'.seen ≤ f ∧ findGo W some_ (findF W some_ f) p (List.range' q (W.n - q)) st' = T)
      (fun i _ => W.n - (intOf i).toNat)
    case atStart => exact ⟨0, st, rfl, Nat.zero_le _, HFB.out, HSE.out, Below.refl _ _, HOK.out, HU.out, HT.out⟩
    case round =>
      clear HFB HSE HOK HU HT st
      obtain ⟨q, st, rfl, hq, hfb, hse, hbl, hok, hu, ht⟩ := hrel
      have HFB := Lib.hid hfb
      have HSE := Lib.hid hse
      have HBL := Lib.hid hbl
      have HOK := Lib.hid hok
      have HU := Lib.hid hu
      have HT := Lib.hid ht
      have q1 := hfb.web
      have q2 := hfb.set
      have q3 := hfb.fn
      unfold findV at q3
      have s1 := hse.cell
      have s2 := hse.free
      have l3 := lt_of_cell s1
      clear hfb hse hbl hok hu ht
      by_cases hlt : q < W.n
      · have hq32 : q < 32 := by omega
        have hq24 : (q : Int) < 24 := by omega
        have hp24 : (p : Int) < 24 := by omega
        obtain ⟨m, hm⟩ : ∃ m, W.n - q = m + 1 := ⟨W.n - q - 1, by omega⟩
        have HM := Lib.hid hm
        clear hm
        have rch := HFB.out.at_.reach p (by omega)
        go_wp2_with fail
        refine (has_any some_ q _ hq32).mono ?_
        rintro e w2 ⟨rfl, rfl⟩
        cases h1 : hasS some_ q
        all_goals
          have H1 := Lib.hid h1
          clear h1
        · go_wp2
          go_roundw
          case rel =>
            refine ⟨q + 1, st, by go_num, by omega, HFB.out, HSE.out, HBL.out, HOK.out, HU.out, ?_⟩
            have := HT.out
            rw [HM.out, findGo_cons, findGo_skip (by unfold wants; rw [H1.out]; rfl)] at this
            rw [show W.n - (q + 1) = m by have := HM.out; omega]
            exact this
          case measure => simp [intOf]; omega
        · go_wp2_with fail
          refine (has_any st.seen q _ hq32).mono ?_
          rintro e w2 ⟨rfl, rfl⟩
          cases h2 : hasS st.seen q
          all_goals
            have H2 := Lib.hid h2
            clear h2
          · go_wp2_with fail
            refine (has_any (W.reach p) q _ hq32).mono ?_
            rintro e w2 ⟨rfl, rfl⟩
            cases h3 : hasS (W.reach p) q
            all_goals
              have H3 := Lib.hid h3
              clear h3
            · go_wp2
              go_roundw
              case rel =>
                refine ⟨q + 1, st, by go_num, by omega, HFB.out, HSE.out, HBL.out, HOK.out, HU.out, ?_⟩
                have := HT.out
                rw [HM.out, findGo_cons, findGo_skip (by unfold wants; rw [H1.out, H2.out, H3.out]; rfl)] at this
                rw [show W.n - (q + 1) = m by have := HM.out; omega]
                exact this
              case measure => simp [intOf]; omega
            · have HW : Hid (wants W some_ p st q = true) := by show _ = _; unfold wants; rw [H1.out, H2.out, H3.out]; rfl
              have hb := (HOK.out).getB (q := q) (by omega)
              have hbl : q < st.before.length := by rw [HOK.out.before.1]; omega
              have hbc := HFB.out.bf.get q hbl
              have hbd : st.before.getD q 0 = st.before[q] := by rw [List.getD_eq_getElem?_getD, List.getElem?_eq_getElem hbl]; rfl
              rw [hbd] at hb
              generalize st.before[q] = bq at hb hbc hbd
              have HBD := Lib.hid hbd
              have hsame : Hid (FB wb sb bb fb nb b W some_ (st.see q).next (st.see q).before (wr.setCell ⟨ks, 0, none⟩ (.int .u32 (sI (st.seen ||| oneS q)))).drew) := (HFB.out.setSeen HFA.out _).kept (Kept.refl _).drew
              have hsees : Hid (SeenAt ks (st.see q).seen (wr.setCell ⟨ks, 0, none⟩ (.int .u32 (sI (st.seen ||| oneS q)))).drew) := (HSE.out.set _).kept (Kept.refl _).drew
              have hbelow : Hid (Below B w (wr.setCell ⟨ks, 0, none⟩ (.int .u32 (sI (st.seen ||| oneS q)))).drew) := (HBL.out.setCell (p := ⟨ks, 0, none⟩) HFA.out.lk _).drew
              have hus : Hid (unseen W.n (st.see q).seen < unseen W.n st.seen) := unseen_lt (by omega) hlt H2.out
              have hoks : Hid ((st.see q).Ok W.n) := HOK.out.see q
              clear hbl hbd q1 q2 q3 rch
              go_wp2
              refine region_tail 7 (by kernel_rfl) (by kernel_rfl) ?_
              simp only [List.take_succ_cons, List.take_zero, List.drop_succ_cons, List.drop_zero]
              repeat still_step
              still_call Calls_still (one_any _ _ hq32)
              repeat still_step
              refine wpStill_nil ?_
              go_wp2
              have hbc2 : (wr.setCell ⟨ks, 0, none⟩ (.int .u32 (sI (st.seen ||| oneS q)))).drew.cell? ⟨bb, q, none⟩ = some (.int .i64 bq) := cell_set_block hbc HFA.out.k1.2.1.symm
              generalize (wr.setCell ⟨ks, 0, none⟩ (.int .u32 (sI (st.seen ||| oneS q)))).drew = wx at *
              clear s1 s2 l3 hbc
              have q3 := hsame.out.fn
              unfold findV at q3
              have lb := lt_of_cell hbc2
              have fb2 := hsame.out.bf.free q
              have hpl : p < st.next.length := by rw [HOK.out.next.1]; omega
              obtain ⟨np, hpc⟩ : ∃ np, wx.cell? ⟨nb, p, none⟩ = some (.int .i64 np) := ⟨_, hsame.out.nx.get p hpl⟩
              have ln := lt_of_cell hpc
              have fn2 := hsame.out.nx.free p
              clear hpl
              by_cases hneg : bq < 0
              · have hTE : Hid ((true, (st.see q).pair p q) = T) := by
                  show _ = _
                  have := HT.out
                  rw [HM.out, findGo_cons, findGo_take HW.out (by rw [HBD.out]; exact hneg)] at this
                  exact this
                refine region_tail 10 (by kernel_rfl) (by kernel_rfl) ?_
                simp only [List.take_succ_cons, List.take_zero, List.drop_succ_cons, List.drop_zero]
                have hcq : (wx.setCell ⟨nb, p, none⟩ (.int .i64 q)).cell? ⟨bb, q, none⟩ = some (.int .i64 bq) := cell_set_block hbc2 HFA.out.n1.1.symm
                iterate 5 still_step
                iterate 5
                  with_reducible refine wpStill_skip ?_ ?_
                  · rfl
                  simp only [Act.put, List.setIfInBounds_toArray, List.set_cons_zero, List.set_cons_succ]
                with_reducible refine wpStill_nil ?_
                go_wp2
                go_ret
                rw [← hTE.out]
                refine ⟨rfl, ?_, ?_, ?_⟩
                · exact (((hsame.out.setNext HFA.out p (q : Int)).setBefore HFA.out q (p : Int)).kept (Kept.refl _).drew)
                · exact (((hsees.out.other HFA.out.k1.1 _).other HFA.out.k1.2.1 _).kept (Kept.refl _).drew)
                · exact ((hbelow.out.setCell (p := ⟨nb, p, none⟩) HFA.out.ln _).setCell (p := ⟨bb, q, none⟩) HFA.out.lb _).drew
              · obtain ⟨r, rfl⟩ : ∃ r : Nat, bq = (r : Int) := ⟨bq.toNat, by omega⟩
                have hrn : r < W.n := by omega
                have HNEG := Lib.hid hneg
                have hdl : decide ((r : Int) < 0) = false := decide_eq_false hneg
                have hTY : Hid ((findF W some_ f r (st.see q)).1 = true → (true, (findF W some_ f r (st.see q)).2.pair p q) = T) := fun h => by
                  have := HT.out
                  rw [HM.out, findGo_cons, findGo_yes HW.out HBD.out h] at this
                  exact this
                have hTN : Hid ((findF W some_ f r (st.see q)).1 = false → findGo W some_ (findF W some_ f) p (List.range' (q + 1) m) (findF W some_ f r (st.see q)).2 = T) := fun h => by
                  have := HT.out
                  rw [HM.out, findGo_cons, findGo_no HW.out HBD.out h] at this
                  exact this
                have hfpos : f - 1 < f ∧ unseen W.n (st.see q).seen ≤ f - 1 ∧ f - 1 + 1 = f := by have h1 := hus.out; have h2 := HU.out; exact ⟨by omega, by omega, by omega⟩
                have hcall := IH.out (f - 1) hfpos.1 r (st.see q) wx.drew hfpos.2.1 hrn hoks.out (hsame.out.kept (Kept.refl _).drew) (hsees.out.kept (Kept.refl _).drew)
                rw [hfpos.2.2] at hcall
                have hok2 : Hid ((findF W some_ f r (st.see q)).2.Ok W.n) := findF_ok hn _ _ _ hrn hoks.out
                have hun2 : Hid (unseen W.n (findF W some_ f r (st.see q)).2.seen ≤ f) := by
                  have h1 := unseen_mono (n := W.n) (s := (st.see q).seen) (t := (findF W some_ f r (st.see q)).2.seen) (fun x hx => findF_seen f r (st.see q) hx)
                  have h2 := hfpos.2.1
                  show _ ≤ _
                  omega
                generalize findF W some_ f r (st.see q) = R at *
                have HCALL := Lib.hid hcall
                clear hcall hfpos hneg hpc ln fn2
                refine region_tail 10 (by kernel_rfl) (by kernel_rfl) ?_
                simp only [List.take_succ_cons, List.take_zero, List.drop_succ_cons, List.drop_zero]
                iterate 5 still_step
                iterate 5
                  with_reducible refine wpStill_want ?_ (fun K hK => ?_)
                  · rfl
                  go_simp
                  refine hK _ ?_
                  clear hK K
                with_reducible refine wpStill_nil ?_
                go_wp2_with fail
                refine HCALL.out.mono ?_
                rintro e w3 ⟨rfl, hfb3, hse3, hbl3⟩
                have HFB3 := Lib.hid hfb3
                have HSE3 := Lib.hid hse3
                have HBL3 := Lib.hid (hbelow.out.drew.trans hbl3)
                clear hfb3 hse3 hbl3 hbc2 q3 lb fb2
                cases hR : R.1
                all_goals
                  have HR := Lib.hid hR
                  clear hR
                · go_wp2
                  go_roundw
                  case rel =>
                    refine ⟨q + 1, R.2, by go_num, by omega, HFB3.out, HSE3.out, HBL3.out, hok2.out, hun2.out, ?_⟩
                    rw [show W.n - (q + 1) = m by have := HM.out; omega]
                    exact hTN.out HR.out
                  case measure => simp [intOf]; omega
                · have hbl : q < R.2.before.length := by rw [hok2.out.before.1]; omega
                  have hpl : p < R.2.next.length := by rw [hok2.out.next.1]; omega
                  obtain ⟨np, hpc⟩ : ∃ np, w3.cell? ⟨nb, p, none⟩ = some (.int .i64 np) := ⟨_, HFB3.out.nx.get p hpl⟩
                  obtain ⟨bq, hbc⟩ : ∃ bq, w3.cell? ⟨bb, q, none⟩ = some (.int .i64 bq) := ⟨_, HFB3.out.bf.get q hbl⟩
                  have ln := lt_of_cell hpc
                  have lb := lt_of_cell hbc
                  have fn2 := HFB3.out.nx.free p
                  have fb2 := HFB3.out.bf.free q
                  have hcq : (w3.setCell ⟨nb, p, none⟩ (.int .i64 q)).cell? ⟨bb, q, none⟩ = some (.int .i64 bq) := cell_set_block hbc HFA.out.n1.1.symm
                  clear hbl hpl
                  go_wp2
                  go_ret
                  rw [← hTY.out HR.out]
                  refine ⟨rfl, ?_, ?_, ?_⟩
                  · exact ((HFB3.out.setNext HFA.out p (q : Int)).setBefore HFA.out q (p : Int))
                  · exact ((HSE3.out.other HFA.out.k1.1 _).other HFA.out.k1.2.1 _)
                  · exact ((HBL3.out.setCell (p := ⟨nb, p, none⟩) HFA.out.ln _).setCell (p := ⟨bb, q, none⟩) HFA.out.lb _)
          · go_wp2
            go_roundw
            case rel =>
              refine ⟨q + 1, st, by go_num, by omega, HFB.out, HSE.out, HBL.out, HOK.out, HU.out, ?_⟩
              have := HT.out
              rw [HM.out, findGo_cons, findGo_skip (by unfold wants; rw [H1.out, H2.out]; rfl)] at this
              rw [show W.n - (q + 1) = m by have := HM.out; omega]
              exact this
            case measure => simp [intOf]; omega
      · have hqn : q = W.n := by omega
        have ht : (false, st) = T := by have := HT.out; rw [hqn, Nat.sub_self] at this; exact this
        have HTE := Lib.hid ht
        clear hqn ht
        go_wp2
        go_ret
        rw [← HTE.out]
        exact ⟨rfl, HFB.out, HSE.out, HBL.out⟩
end Go.Proofs.Yteljjkghjbofnaa

/-! matched. -/
set_option maxRecDepth 100000
namespace Go.Proofs.Yteljjkghjbofnaa
open Go Go.Proofs Go.RowKit
attribute [local go_sem] Oper.semAt_some

def intsV (l : List Int) : Value := .agg (l.map (Value.int .i64)).toArray
def MatchedPost (W : Web) (some_ : S) (w : World) (e : Ending) (w' : World) : Prop := e = .returned (intsV (matchedL W some_)) ∧ Kept w w'

theorem Arr.range {X : World} {g : Nat} {xs : List Int} (h : Arr X g xs) : X.rangeAt g 0 (xs.map (Value.int .i64)) := by
  intro j v hv
  rw [List.getElem?_map] at hv
  cases hx : xs[j]? with
  | none => rw [hx] at hv; cases hv
  | some x =>
    rw [hx] at hv
    cases hv
    obtain ⟨hj, rfl⟩ := List.getElem?_eq_some_iff.1 hx
    rw [Nat.zero_add]
    exact h.get j hj
theorem Arr.there {X : World} {g : Nat} {xs : List Int} (h : Arr X g xs) : X.there g 0 xs.length := by
  intro j hj
  rw [Nat.zero_add]
  exact ⟨by rw [h.get j hj]; rfl, h.free j⟩
theorem ints_one (xs : List Int) : ((xs.map (Value.int .i64)).toArray).all (·.oneCell') = true := all_oneCell_toArray (fun v hv => by
  obtain ⟨_, _, rfl⟩ := List.mem_map.1 hv
  rfl)
theorem size154 : (Try.prog.info? 154).map (·.size) = some 24 := by kernel_rfl

def repK (k : Nat) : List Int := List.replicate k (-1) ++ List.replicate (24 - k) 0
theorem repK_len {k : Nat} (hk : k ≤ 24) : (repK k).length = 24 := by simp [repK]; omega
theorem repK_set {k : Nat} (hk : k < 24) : (repK k).set k (-1) = repK (k + 1) := by
  unfold repK
  rw [List.set_append_right _ _ (by simp), List.length_replicate, Nat.sub_self, show 24 - k = (24 - (k + 1)) + 1 by omega, List.replicate_succ, List.set_cons_zero, List.replicate_succ' (n := k), List.append_assoc]
  rfl

structure M1 (w : World) (wb b : Nat) (some_ : S) (nx bf : List Int) (X : World) : Prop where
  kept : Kept w X
  sz : X.heap.size = wb + 5
  web : X.cell? ⟨wb, 0, none⟩ = some (.pointer (some ⟨b, 0, none⟩))
  set : X.cell? ⟨wb + 1, 0, none⟩ = some (.int .u32 (sI some_))
  rr : Arr X (wb + 2) (List.replicate 24 0)
  nx : Arr X (wb + 3) nx
  bf : Arr X (wb + 4) bf
theorem M1.setNx {w : World} {wb b : Nat} {some_ : S} {nx bf : List Int} {X : World} (h : M1 w wb b some_ nx bf X) (hw : w.heap.size = wb) (k : Nat) (x : Int) : M1 w wb b some_ (nx.set k x) bf (X.setCell ⟨wb + 3, k, none⟩ (.int .i64 x)) :=
  ⟨h.kept.setCell (p := ⟨wb + 3, k, none⟩) (by simp; omega) _, by simpa [World.setCell] using h.sz, cell_set_block h.web (by omega), cell_set_block h.set (by omega), h.rr.setOther (by omega), h.nx.set x, h.bf.setOther (by omega)⟩
theorem M1.setBf {w : World} {wb b : Nat} {some_ : S} {nx bf : List Int} {X : World} (h : M1 w wb b some_ nx bf X) (hw : w.heap.size = wb) (k : Nat) (x : Int) : M1 w wb b some_ nx (bf.set k x) (X.setCell ⟨wb + 4, k, none⟩ (.int .i64 x)) :=
  ⟨h.kept.setCell (p := ⟨wb + 4, k, none⟩) (by simp; omega) _, by simpa [World.setCell] using h.sz, cell_set_block h.web (by omega), cell_set_block h.set (by omega), h.rr.setOther (by omega), h.nx.setOther (by omega), h.bf.set x⟩

theorem results_cell {P : Program} {fn : Func} {t : Tmp} {ty : TypeId} (h : fn.results = #[.cell t ty]) (tmps : Array Value) (w : World) (a : Addr) (ha : tmps.getD t undef = .pointer (some a)) (v : Value) (hl : (loadVar ty a).run P w = .ok v w) :
    (results fn tmps).run P w = .ok v w := by
  rw [Array.getD_eq_getD_getElem?] at ha
  simp [results, h, asAddr, ha, hl]

set_option maxHeartbeats 1600000 in
theorem matched_any (b : Nat) (W : Web) (some_ : S) (w : World) (hw : WebAt w b W) (hn : W.n ≤ 24) : Calls Try.prog 149 #[.pointer (some ⟨b, 0, none⟩), .int .u32 (sI some_)] w (MatchedPost W some_ w) := by
  have HW := Lib.hid hw
  clear hw
  have hsf := fun (a : Addr) (c : Array Value) (w : World) => run_store Try.prog w a (.func (.func 155) #[] c) .plain rfl
  go_enter Try.func149, Try.ntmps149
  go_wp2
  obtain ⟨wb, hwb⟩ : ∃ wb, w.heap.size = wb := ⟨_, rfl⟩
  rw [hwb]
  obtain ⟨w2, e2, hk2, hz2, hc2, hd2⟩ : ∃ w2, (w.alloc (.cells #[.pointer (some ⟨b, 0, none⟩)] 88)).alloc (.cells #[.int .u32 (sI some_)] 93) = w2 ∧ Kept w w2 ∧ w2.heap.size = wb + 2 ∧ w2.cell? ⟨wb, 0, none⟩ = some (.pointer (some ⟨b, 0, none⟩)) ∧ w2.cell? ⟨wb + 1, 0, none⟩ = some (.int .u32 (sI some_)) :=
    ⟨_, rfl, ((Kept.refl w).alloc _).alloc _, by simp [hwb], by simp [← hwb, go_sem], by simp [← hwb, go_sem]⟩
  rw [e2]
  clear e2
  obtain ⟨w3, e3, hk3, hz3, ha3⟩ := alloc_left w2
  rw [e3]
  clear e3
  obtain ⟨w4, e4, hk4, hz4, ha4⟩ := alloc_left w3
  rw [e4]
  clear e4
  obtain ⟨w5, e5, hk5, hz5, ha5⟩ := alloc_left w4
  rw [e5]
  clear e5
  have HWB := Lib.hid hwb
  have HM : Hid (M1 w wb b some_ (repK 0) (repK 0) w5) := by
    rw [hz2] at hz3 ha3
    rw [hz3] at hz4 ha4
    rw [hz4] at hz5 ha5
    exact ⟨((hk2.trans hk3).trans hk4).trans hk5, by omega, (hk3.trans (hk4.trans hk5)).cell hc2, (hk3.trans (hk4.trans hk5)).cell hd2, ha3.kept (hk4.trans hk5), ha4.kept hk5, ha5⟩
  clear hk2 hz2 hc2 hd2 hk3 hz3 ha3 hk4 hz4 ha4 hk5 hz5 ha5 w2 w3 w4 hwb
  go_loopw [11] (fun i wr => ∃ k : Nat, k ≤ 24 ∧ i = .int .i64 k ∧ M1 w wb b some_ (repK k) (repK k) wr) (fun i _ => 24 - (intOf i).toNat)
  case atStart => exact ⟨0, by omega, rfl, HM.out⟩
  case round =>
    clear HM
    obtain ⟨k, hk, rfl, hm⟩ := hrel
    have HM := Lib.hid hm
    clear hm
    by_cases hlt : k < 24
    · have hki : (k : Int) < 24 := by omega
      obtain ⟨x1, hx1⟩ : ∃ x, wr.cell? ⟨wb + 3, k, none⟩ = some (.int .i64 x) := ⟨_, HM.out.nx.get k (by rw [repK_len hk]; exact hlt)⟩
      obtain ⟨x2, hx2⟩ : ∃ x, wr.cell? ⟨wb + 4, k, none⟩ = some (.int .i64 x) := ⟨_, HM.out.bf.get k (by rw [repK_len hk]; exact hlt)⟩
      have f1 := HM.out.nx.free k
      have f2 := HM.out.bf.free k
      have hx3 : (wr.setCell ⟨wb + 3, k, none⟩ (.int .i64 (-1))).cell? ⟨wb + 4, k, none⟩ = some (.int .i64 x2) := cell_set_block hx2 (by omega)
      have l1 := lt_of_cell hx1
      have l2 := lt_of_cell hx2
      go_wp2
      go_roundw
      case rel =>
        refine ⟨k + 1, by omega, by go_num, ?_⟩
        rw [← repK_set hlt]
        exact (HM.out.setNx HWB.out k (-1)).setBf HWB.out k (-1)
      case measure => simp [intOf]; omega
    · have ek : k = 24 := by omega
      subst ek
      have HSZ := HM.out.sz
      have hcN : (wr.alloc (.cells #[.nilFunc] 165)).cell? ⟨wb + 5, 0, none⟩ = some .nilFunc := by rw [← HSZ]; simp [go_sem]
      have hfN : (wr.alloc (.cells #[.nilFunc] 165)).frozen? ⟨wb + 5, 0, none⟩ = false := by rw [← HSZ]; simp [go_sem]
      have hwc := HM.out.web
      have hnn := (HW.out.kept HM.out.kept).n
      have lw := lt_of_cell hwc
      have lb := lt_of_cell hnn
      have hbne : b ≠ wb + 5 := by omega
      have hbne2 : b < wb + 5 := by omega
      go_wp2_with fail
      have hk0 : (repK 24) = List.replicate 24 (-1) := by simp [repK]
      have HKR : Hid (Kept wr (wr.alloc (.cells #[findV wb (wb + 1) (wb + 4) (wb + 5) (wb + 3)] 165))) := (Kept.refl wr).alloc _
      have hfc : (wr.alloc (.cells #[findV wb (wb + 1) (wb + 4) (wb + 5) (wb + 3)] 165)).cell? ⟨wb + 5, 0, none⟩ = some (findV wb (wb + 1) (wb + 4) (wb + 5) (wb + 3)) := by rw [← HSZ]; simp [go_sem]
      have hsz6 : (wr.alloc (.cells #[findV wb (wb + 1) (wb + 4) (wb + 5) (wb + 3)] 165)).heap.size = wb + 6 := by simp [HSZ]
      have hst0 : Hid (FB wb (wb + 1) (wb + 4) (wb + 5) (wb + 3) b W some_ (matchSt W some_ 0).next (matchSt W some_ 0).before (wr.alloc (.cells #[findV wb (wb + 1) (wb + 4) (wb + 5) (wb + 3)] 165))) := by
        have h1 := HM.out.nx
        have h2 := HM.out.bf
        rw [hk0] at h1 h2
        exact ⟨HKR.out.cell HM.out.web, HKR.out.cell HM.out.set, hfc, (HW.out.kept HM.out.kept).kept HKR.out, h1.kept HKR.out, h2.kept HKR.out⟩
      have hrr : Hid (Arr (wr.alloc (.cells #[findV wb (wb + 1) (wb + 4) (wb + 5) (wb + 3)] 165)) (wb + 2) (List.replicate 24 0)) := HM.out.rr.kept HKR.out
      have hkk : Hid (Kept w (wr.alloc (.cells #[findV wb (wb + 1) (wb + 4) (wb + 5) (wb + 3)] 165))) := HM.out.kept.trans HKR.out
      unfold findV at hst0 hrr hkk hsz6
      generalize (wr.alloc (.cells #[Value.func (.func 155) #[] #[.pointer (some ⟨wb, 0, none⟩), .pointer (some ⟨wb + 1, 0, none⟩), .pointer (some ⟨wb + 4, 0, none⟩), .pointer (some ⟨wb + 5, 0, none⟩), .pointer (some ⟨wb + 3, 0, none⟩)]] 165)) = w6 at *
      clear hcN hfN hwc hnn lw lb hbne hbne2 hk0 HKR hfc HSZ hlt hk hsf HM
      go_loopw [24] (fun i wr => ∃ p : Nat, p ≤ W.n ∧ i = .int .i64 p ∧ FB wb (wb + 1) (wb + 4) (wb + 5) (wb + 3) b W some_ (matchSt W some_ p).next (matchSt W some_ p).before wr ∧ Arr wr (wb + 2) (List.replicate 24 0) ∧ Kept w wr ∧ wb + 6 ≤ wr.heap.size) (fun i _ => W.n - (intOf i).toNat)
      case atStart => exact ⟨0, Nat.zero_le _, rfl, hst0.out, hrr.out, hkk.out, by omega⟩
      case round =>
        clear hst0 hrr hkk hsz6
        obtain ⟨p, hp, rfl, hfb, har, hkw, hsz⟩ := hrel
        have HFB := Lib.hid hfb
        have HAR := Lib.hid har
        have HKW := Lib.hid hkw
        have q1 := hfb.set
        have q2 := hfb.fn
        have l1 := lt_of_cell q1
        have l2 := lt_of_cell q2
        unfold findV at q2
        clear hfb har hkw
        by_cases hlt : p < W.n
        · have hp32 : p < 32 := by omega
          go_wp2_with fail
          refine (has_any some_ p _ hp32).mono ?_
          rintro e w2 ⟨rfl, rfl⟩
          cases h1 : hasS some_ p
          all_goals
            have H1 := Lib.hid h1
            clear h1
          · have e : Hid (matchSt W some_ (p + 1) = matchSt W some_ p) := by show _ = _; rw [matchSt_succ]; unfold matchStep; rw [H1.out]; rfl
            go_wp2
            refine ⟨⟨_, _, _, _, _, _, _, _, _, _, _, _, ⟨p + 1, by omega, by go_num, by rw [e.out]; exact HFB.out, HAR.out, HKW.out, hsz⟩, rfl⟩, ?_⟩
            simp [intOf]
            omega
          · have HE : Hid (matchSt W some_ (p + 1) = (findF W some_ (W.n + 1) p { matchSt W some_ p with seen := 0#32 }).2) := by show _ = _; rw [matchSt_succ]; unfold matchStep; rw [H1.out]; rfl
            go_wp2_with fail
            have hk0 : Kept wr (wr.alloc (.cells #[.int .u32 0] 93)) := (Kept.refl wr).alloc _
            have hse : SeenAt wr.heap.size 0#32 (wr.alloc (.cells #[.int .u32 0] 93)) := ⟨by simp [go_sem, sI_zero], by simp [go_sem]⟩
            have hz0 : (wr.alloc (.cells #[.int .u32 0] 93)).heap.size = wr.heap.size + 1 := by simp
            have hbl : b < wb := by have h1 := lt_of_cell HW.out.n; have h2 := HWB.out; omega
            have hfa : FA (wb + 3) wb (wb + 1) (wb + 4) (wb + 5) (wb + 3) b wr.heap.size := ⟨by omega, by omega, by omega, by omega, by omega, by omega⟩
            have hok : (matchSt W some_ p).Ok W.n := matchSt_ok hn p hp
            generalize (wr.alloc (.cells #[.int .u32 0] 93)) = wx at *
            refine (find_any (wb + 3) wb (wb + 1) (wb + 4) (wb + 5) (wb + 3) b wr.heap.size W some_ hn hfa W.n p { matchSt W some_ p with seen := 0#32 } wx ?_ hlt (hok.seen _) (HFB.out.kept hk0) hse).mono ?_
            · unfold unseen
              refine Nat.le_trans (List.length_filter_le _ _) ?_
              simp
            rintro e w3 ⟨rfl, hfb3, hse3, hbl3⟩
            have HB3 := Lib.hid hfb3
            have HA3 : Hid (Arr w3 (wb + 2) (List.replicate 24 0)) := by
              have h := HAR.out.kept hk0
              exact ⟨Nat.lt_of_lt_of_le h.lt hbl3.size, fun i hi => (Below.cell (p := ⟨wb + 2, i, none⟩) hbl3 (by simp)).trans (h.get i hi), fun o => (Below.frozen (p := ⟨wb + 2, o, none⟩) hbl3 (by simp)).trans (h.free o)⟩
            have HK3 : Hid (Kept w w3) := Below.trans (HKW.out.trans hk0) (Below.mono hbl3 (by have := HWB.out; omega))
            have hsz3 : wb + 6 ≤ w3.heap.size := by have := hbl3.size; omega
            clear hfb3 hse3 hbl3 hse hk0 hfa hok hz0
            go_wp2
            refine ⟨⟨_, _, _, _, _, _, _, _, _, _, _, _, ⟨p + 1, by omega, by go_num, by rw [HE.out]; exact HB3.out, HA3.out, HK3.out, hsz3⟩, rfl⟩, ?_⟩
            simp [intOf]
            omega
        · have ep : p = W.n := by omega
          rw [ep] at HFB
          clear ep
          have hlen : (matchSt W some_ W.n).next.length = 24 := (matchSt_ok hn W.n (Nat.le_refl _)).next.1
          have hz := Arr.there HAR.out
          clear q1 q2 l1 l2
          go_wp2_with (first
            | (refine wpList_load_mid rfl 154 _ rfl (wb + 3) 0 rfl ((matchSt W some_ W.n).next.map (Value.int .i64)) _ HFB.out.nx.range Try.underlying154 rfl (by rw [List.length_map, hlen]; exact size154) ?_)
            | (refine wpList_store_mid rfl 154 _ _ rfl (wb + 2) 0 ((matchSt W some_ W.n).next.map (Value.int .i64)).toArray rfl rfl (by rw [List.size_toArray, List.length_map, hlen]; simpa using hz) (by rw [List.size_toArray, List.length_map, hlen]; exact size154) (ints_one _) ?_))
          refine bodyPost_ret (results_cell rfl _ _ ⟨wb + 2, 0, none⟩ rfl (intsV (matchedL W some_)) (run_loadVar_mid _ _ _ _ _ _ (World.rangeAt_setCells_same wr (wb + 2) 0 _ (by rw [List.length_map, hlen]; simpa using hz)) Try.underlying154 rfl (by rw [List.length_map]; show _ = some (matchSt W some_ W.n).next.length; rw [hlen]; exact size154))) rfl ?_
          exact ⟨rfl, HKW.out.setCells (b := wb + 2) (by have := HWB.out; omega) _ _⟩
end Go.Proofs.Yteljjkghjbofnaa

/-! OnesCount32, broad, free. -/
set_option maxRecDepth 100000
namespace Go.Proofs.Yteljjkghjbofnaa
open Go Go.Proofs Go.RowKit
attribute [local go_sem] Oper.semAt_some

theorem shr_sI (s : S) (k : Nat) : sI s / ((2 ^ k : Nat) : Int) = sI (s >>> k) := by
  unfold sI
  rw [BitVec.toNat_ushiftRight, Nat.shiftRight_eq_div_pow]
  omega
theorem and255 (t : S) : bits .and .u32 (sI t) 255 = sI (t &&& 255#32) := bits_and_sI t 255#32
theorem tab_size : (Lib.pop8tab.size : Int) = 256 := by kernel_rfl

/-- How many of the first n numbers f has. -/
def cntB (f : Nat → Bool) (n : Nat) : Nat := ((List.range n).filter f).length
theorem cntB_add (f : Nat → Bool) (a b : Nat) : cntB f (a + b) = cntB f a + cntB (fun i => f (a + i)) b := by
  unfold cntB
  rw [List.range_add, List.filter_append, List.length_append, List.filter_map, List.length_map]
  rfl
theorem cntB_congr {f g : Nat → Bool} {n : Nat} (h : ∀ i, i < n → f i = g i) : cntB f n = cntB g n := by
  unfold cntB
  rw [List.filter_congr (fun x hx => h x (List.mem_range.1 hx))]
theorem cntB_le (f : Nat → Bool) (n : Nat) : cntB f n ≤ n := by
  unfold cntB
  refine Nat.le_trans (List.length_filter_le _ _) ?_
  simp
theorem tab_val : ∀ n : Fin 256, (Lib.pop8tab[n.val]'(by rw [Lib.pop8tab_size]; exact n.isLt)).toNat = cntB (fun i => n.val.testBit i) 8 := by decide +kernel
theorem tab_at {t : S} (h : t.toNat < 256) : ∀ (hi : (sI t).toNat < Lib.pop8tab.size), (Lib.pop8tab[(sI t).toNat]'hi).toNat = cntB (fun i => hasS t i) 8 := fun _ => tab_val ⟨t.toNat, h⟩

set_option maxHeartbeats 800000 in
theorem ones_any (s : S) (w : World) : Calls Try.prog 148 #[.int .u32 (sI s)] w (Gives (.int .i64 (popS s)) w) := by
  have e24 : sI s / (16777216 : Int) = sI (s >>> 24) := shr_sI s 24
  have e16 : sI s / (65536 : Int) = sI (s >>> 16) := shr_sI s 16
  have e8 : sI s / (256 : Int) = sI (s >>> 8) := shr_sI s 8
  have a16 := and255 (s >>> 16)
  have a8 := and255 (s >>> 8)
  have a0 := and255 s
  have lt : ∀ t : S, t.toNat < 256 → (0 : Int) ≤ sI t ∧ sI t < (Lib.pop8tab.size : Int) := fun t h => by
    rw [tab_size]
    refine ⟨sI_nonneg _, ?_⟩
    unfold sI
    omega
  have lt255 : ∀ t : S, (t &&& 255#32).toNat < 256 := fun t => by
    rw [BitVec.toNat_and]
    have := Nat.and_le_right (n := t.toNat) (m := (255#32 : S).toNat)
    have e : (255#32 : S).toNat = 255 := rfl
    omega
  have b24 : (s >>> 24).toNat < 256 := by
    have h := sI_lt s
    rw [show (s >>> 24).toNat = (sI (s >>> 24)).toNat from rfl, ← e24]
    omega
  have b16 := lt255 (s >>> 16)
  have b8 := lt255 (s >>> 8)
  have b0 := lt255 s
  have l24 := lt _ b24
  have l16 := lt _ b16
  have l8 := lt _ b8
  have l0 := lt _ b0
  have c24 := tab_at b24
  have c16 := tab_at b16
  have c8 := tab_at b8
  have c0 := tab_at b0
  have hmask : ∀ i, i < 8 → hasS 255#32 i = true := by decide
  have hsum : popS s = cntB (fun i => hasS (s &&& 255#32) i) 8 + cntB (fun i => hasS ((s >>> 8) &&& 255#32) i) 8 + cntB (fun i => hasS ((s >>> 16) &&& 255#32) i) 8 + cntB (fun i => hasS (s >>> 24) i) 8 := by
    have h0 : popS s = cntB (fun i => hasS s i) (8 + 8 + 8 + 8) := rfl
    rw [h0, cntB_add, cntB_add, cntB_add]
    have sh : ∀ k i, hasS (s >>> k) i = hasS s (k + i) := fun k i => by unfold hasS; rw [BitVec.getLsbD_ushiftRight]
    rw [cntB_congr (f := fun i => hasS s i) (g := fun i => hasS (s &&& 255#32) i) (fun i hi => by rw [hasS_and, hmask i hi, Bool.and_true]),
      cntB_congr (f := fun i => hasS s (8 + i)) (g := fun i => hasS ((s >>> 8) &&& 255#32) i) (fun i hi => by rw [hasS_and, hmask i hi, Bool.and_true, sh]),
      cntB_congr (f := fun i => hasS s (8 + 8 + i)) (g := fun i => hasS ((s >>> 16) &&& 255#32) i) (fun i hi => by rw [hasS_and, hmask i hi, Bool.and_true, sh]),
      cntB_congr (f := fun i => hasS s (8 + 8 + 8 + i)) (g := fun i => hasS (s >>> 24) i) (fun i hi => by rw [sh])]
  have hle : cntB (fun i => hasS (s &&& 255#32) i) 8 ≤ 8 ∧ cntB (fun i => hasS ((s >>> 8) &&& 255#32) i) 8 ≤ 8 ∧ cntB (fun i => hasS ((s >>> 16) &&& 255#32) i) 8 ≤ 8 ∧ cntB (fun i => hasS (s >>> 24) i) 8 ≤ 8 := ⟨cntB_le _ _, cntB_le _ _, cntB_le _ _, cntB_le _ _⟩
  have HSUM := Lib.hid hsum
  have HLE := Lib.hid hle
  have C24 := Lib.hid c24
  have C16 := Lib.hid c16
  have C8 := Lib.hid c8
  have C0 := Lib.hid c0
  clear lt lt255 hmask hsum hle c24 c16 c8 c0 b24 b16 b8 b0
  generalize s >>> 24 = s24 at *
  generalize (s >>> 16) &&& 255#32 = s16 at *
  generalize (s >>> 8) &&& 255#32 = s8 at *
  generalize s &&& 255#32 = s0 at *
  go_enter Try.func148, Try.ntmps148
  go_wp2
  refine region_tail 18 (by kernel_rfl) (by kernel_rfl) ?_
  simp only [List.take_succ_cons, List.take_zero, List.drop_succ_cons, List.drop_zero]
  iterate 18 still_step
  refine wpStill_nil ?_
  go_wp2
  go_ret
  refine ⟨?_, (Kept.refl w).drew⟩
  refine ret_int ?_
  rw [C24.out, C16.out, C8.out, C0.out, HSUM.out]
  obtain ⟨h1, h2, h3, h4⟩ := HLE.out
  generalize cntB (fun i => hasS s0 i) 8 = n0 at *
  generalize cntB (fun i => hasS s8 i) 8 = n8 at *
  generalize cntB (fun i => hasS s16 i) 8 = n16 at *
  generalize cntB (fun i => hasS s24 i) 8 = n24 at *
  simp only [IntKind.wrap_u8, IntKind.wrap_i64]
  omega

/-! ### free -/

set_option maxHeartbeats 800000 in
theorem free_any (b : Nat) (W : Web) (some_ : S) (p : Nat) (w : World) (hw : WebAt w b W) (hn : W.n ≤ 24) (hp : p < W.n) : Calls Try.prog 127 #[.pointer (some ⟨b, 0, none⟩), .int .u32 (sI some_), .int .i64 p] w (Tells (.int .u32 (sI (freeS W some_ p))) w) := by
  have HW := Lib.hid hw
  have q1 := hw.n
  have q2 := hw.reach p (by omega)
  have hp24 : (p : Int) < 24 := by omega
  have hp32 : p < 32 := by omega
  clear hw
  go_enter Try.func127, Try.ntmps127
  go_wp2
  go_loop [7, 13] (fun o i => ∃ k : Nat, k ≤ W.n ∧ i = .int .i64 k ∧ o = .int .u32 (sI (freePart W some_ p k))) (fun _ i => W.n - (intOf i).toNat)
  case atStart => exact ⟨0, Nat.zero_le _, rfl, rfl⟩
  case round =>
    obtain ⟨k, hk, rfl, rfl⟩ := hrel
    by_cases hlt : k < W.n
    · have hk32 : k < 32 := by omega
      have hk24 : (k : Int) < 24 := by omega
      have q3 := HW.out.reach k (by omega)
      go_wp2_with fail
      refine (has_any some_ k _ hk32).mono ?_
      rintro e w2 ⟨rfl, rfl⟩
      cases h1 : hasS some_ k
      all_goals
        have H1 := Lib.hid h1
        clear h1
      · go_wp2
        go_round
        case rel => exact ⟨k + 1, by omega, by go_num, by rw [freePart_succ]; unfold freeB; rw [H1.out]; rfl⟩
        case measure => simp [intOf]; omega
      · by_cases hkp : k = p
        · have hne : ((k : Int) != (p : Int)) = false := by simp [hkp]
          have HKP := Lib.hid hkp
          clear hkp
          go_wp2
          go_round
          case rel => exact ⟨k + 1, by omega, by go_num, by rw [freePart_succ]; unfold freeB; rw [H1.out, HKP.out]; simp⟩
          case measure => simp [intOf]; omega
        · have hne : ((k : Int) != (p : Int)) = true := by simp; omega
          have HKP := Lib.hid hkp
          clear hkp
          go_wp2_with fail
          refine (has_any (W.reach p) k _ hk32).mono ?_
          rintro e w2 ⟨rfl, rfl⟩
          cases h2 : hasS (W.reach p) k
          all_goals
            have H2 := Lib.hid h2
            clear h2
          · go_wp2_with fail
            refine (has_any (W.reach k) p _ hp32).mono ?_
            rintro e w2 ⟨rfl, rfl⟩
            cases h3 : hasS (W.reach k) p
            all_goals
              have H3 := Lib.hid h3
              clear h3
            · go_wp2_with fail
              refine (one_any k _ hk32).mono ?_
              rintro e w2 ⟨rfl, rfl⟩
              go_wp2
              go_round
              case rel => exact ⟨k + 1, by omega, by go_num, by rw [freePart_succ]; unfold freeB; rw [H1.out, H2.out, H3.out]; simp [HKP.out]⟩
              case measure => simp [intOf]; omega
            · go_wp2
              go_round
              case rel => exact ⟨k + 1, by omega, by go_num, by rw [freePart_succ]; unfold freeB; rw [H1.out, H2.out, H3.out]; simp⟩
              case measure => simp [intOf]; omega
          · go_wp2
            go_round
            case rel => exact ⟨k + 1, by omega, by go_num, by rw [freePart_succ]; unfold freeB; rw [H1.out, H2.out]; simp⟩
            case measure => simp [intOf]; omega
    · have hkn : k = W.n := by omega
      have HK := Lib.hid hkn
      clear hkn
      go_wp2
      go_ret
      refine ⟨?_, rfl⟩
      rw [HK.out]
      rfl
end Go.Proofs.Yteljjkghjbofnaa

/-! broad, Free. -/
set_option maxRecDepth 100000
namespace Go.Proofs.Yteljjkghjbofnaa
open Go Go.Proofs Go.RowKit
attribute [local go_sem] Oper.semAt_some

def broadPart (some_ : S) (next : List Int) (m : Int) (k : Nat) : Int := (List.range k).foldl (broadStep some_ next) m
theorem broadPart_succ (some_ : S) (next : List Int) (m : Int) (k : Nat) : broadPart some_ next m (k + 1) = broadStep some_ next (broadPart some_ next m k) k := by unfold broadPart; rw [List.range_succ, List.foldl_append]; rfl
theorem broadPart_bound (some_ : S) (next : List Int) (m : Int) : ∀ k : Nat, m - (k : Int) ≤ broadPart some_ next m k ∧ broadPart some_ next m k ≤ m
  | 0 => by simp [broadPart]
  | k + 1 => by
    have := broadPart_bound some_ next m k
    rw [broadPart_succ]
    unfold broadStep
    split <;> omega
theorem popS_le (s : S) : popS s ≤ 32 := by
  unfold popS
  refine Nat.le_trans (List.length_filter_le _ _) ?_
  simp
theorem matchedL_ok {W : Web} {some_ : S} (hn : W.n ≤ 24) : (matchedL W some_).length = 24 := (matchSt_ok hn W.n (Nat.le_refl _)).next.1

theorem idx154 {l : List Int} {k : Nat} {x : Int} (h : l[k]? = some x) (hl : l.length = 24) (w : World) : Sem.run Try.prog (Instr.index 154 (.agg (l.map (Value.int .i64)).toArray) (.int .i64 k)) w = .ok (.int .i64 x) w := by
  have hk : k < 24 := by rw [← hl]; exact (List.getElem?_eq_some_iff.1 h).1
  simp [Instr.index, run_underlying Try.underlying154, asIntOf, go_sem, hk, h]

set_option maxHeartbeats 800000 in
theorem broad_any (b : Nat) (W : Web) (some_ : S) (w : World) (hw : WebAt w b W) (hn : W.n ≤ 24) : Calls Try.prog 126 #[.pointer (some ⟨b, 0, none⟩), .int .u32 (sI some_)] w (Gives (.int .i64 (broadI W some_)) w) := by
  have HW := Lib.hid hw
  clear hw
  have HLEN : Hid ((matchedL W some_).length = 24) := matchedL_ok hn
  have HB : Hid (broadI W some_ = broadPart some_ (matchedL W some_) (popS some_) 24) := Lib.hid rfl
  have hpop := popS_le some_
  go_enter Try.func126, Try.ntmps126
  go_wp2_with fail
  refine (ones_any some_ w).mono ?_
  rintro e w1 ⟨rfl, hk1⟩
  have HK1 := Lib.hid hk1
  clear hk1
  go_wp2_with fail
  refine (matched_any b W some_ w1 (HW.out.kept HK1.out) hn).mono ?_
  rintro e w2 ⟨rfl, hk2⟩
  have HK2 := Lib.hid (HK1.out.trans hk2)
  clear hk2
  unfold intsV
  generalize broadI W some_ = total at *
  generalize matchedL W some_ = next at *
  generalize popS some_ = m0 at *
  have hm0 : (m0 : Int) ≤ 32 := by omega
  go_wp2
  go_loop [5, 13] (fun m i => ∃ k : Nat, k ≤ 24 ∧ i = .int .i64 k ∧ m = .int .i64 (broadPart some_ next m0 k)) (fun _ i => 24 - (intOf i).toNat)
  case atStart => exact ⟨0, by omega, rfl, rfl⟩
  case round =>
    obtain ⟨k, hk, rfl, rfl⟩ := hrel
    by_cases hlt : k < 24
    · have hk32 : k < 32 := by omega
      have hki : (k : Int) < 24 := by omega
      have hkl : k < next.length := by rw [HLEN.out]; exact hlt
      have hx : next[k]? = some next[k] := List.getElem?_eq_getElem hkl
      have hxd : next.getD k 0 = next[k] := by rw [List.getD_eq_getElem?_getD, hx]; rfl
      generalize next[k] = x at hx hxd
      have hbd := broadPart_bound some_ next m0 k
      have hsc := broadPart_succ some_ next m0 k
      have HSC := Lib.hid hsc
      have HXD := Lib.hid hxd
      clear hsc hxd hkl
      generalize broadPart some_ next m0 k = m at *
      have hw1 : IntKind.i64.wrap (m - 1) = m - 1 := IntWalk.i64_in _ (by omega)
      have hidx := idx154 hx HLEN.out w2
      go_wp2_with fail
      refine (has_any some_ k _ hk32).mono ?_
      rintro e w3 ⟨rfl, rfl⟩
      cases h1 : hasS some_ k
      all_goals
        have H1 := Lib.hid h1
        clear h1
      · go_wp2
        go_round
        case rel => exact ⟨k + 1, by omega, by go_num, by rw [HSC.out]; unfold broadStep; rw [H1.out]; rfl⟩
        case measure => simp [intOf]; omega
      · by_cases hneg : 0 ≤ x
        · have HNEG := Lib.hid hneg
          have hd : decide (x ≥ 0) = true := decide_eq_true hneg
          clear hneg
          go_wp2
          go_round
          case rel => exact ⟨k + 1, by omega, by go_num, by rw [HSC.out]; unfold broadStep; rw [if_pos ⟨H1.out, by rw [HXD.out]; exact HNEG.out⟩]⟩
          case measure => simp [intOf]; omega
        · have HNEG := Lib.hid hneg
          have hd : decide (x ≥ 0) = false := decide_eq_false hneg
          clear hneg
          go_wp2
          go_round
          case rel => exact ⟨k + 1, by omega, by go_num, by rw [HSC.out]; unfold broadStep; rw [if_neg (fun h => by have h3 := HNEG.out; have h4 := h.2; rw [HXD.out] at h4; omega)]⟩
          case measure => simp [intOf]; omega
    · have hkn : k = 24 := by omega
      rw [hkn]
      have HE := Lib.hid HB.out.symm
      go_wp2
      go_ret
      exact ⟨ret_int HE.out, HK2.out⟩

/-! ### Free -/

theorem freeStep_facts (W : Web) : ∀ (k : Nat), k ≤ W.n → (freePt W k).1.length ≤ k ∧ broadI W (wholeS W.n) - (k : Int) ≤ (freePt W k).2.2 ∧ (freePt W k).2.2 ≤ broadI W (wholeS W.n)
  | 0, _ => by simp [freePt]
  | k + 1, h => by
    have := freeStep_facts W k (by omega)
    rw [freePt_succ]
    unfold freeStep
    split
    · omega
    · split
      · simp only [List.length_append, List.length_cons, List.length_nil]; omega
      · omega
theorem broadI_bound (W : Web) (some_ : S) : -24 ≤ broadI W some_ ∧ broadI W some_ ≤ 32 := by
  have h := broadPart_bound some_ (matchedL W some_) (popS some_) 24
  have h2 := popS_le some_
  have e : broadI W some_ = broadPart some_ (matchedL W some_) (popS some_) 24 := rfl
  omega
theorem sub_one_val (p : Nat) (hp : p < 32) : IntKind.u32.wrap (sI (oneS p) - 1) = sI (oneS p - 1#32) := whole_val p hp

set_option maxHeartbeats 1600000 in
theorem Free_ok (o : Prob) (ao bo : Option Addr) (ca cb : Nat) (w : World) (ho : IsProb w o ao bo) (h : errS o = 0) :
    Calls Try.prog 64 #[probV o ao ca bo cb] w (ListErr (freeL (webOf o)) 0 w) := by
  have HO := Lib.hid ho
  obtain ⟨h1, h2⟩ := errS_ok h
  have hn := webOf_n h1
  have H1 := Lib.hid h1
  have H2 := Lib.hid h2
  clear ho h h1 h2
  go_enter Try.func64, Try.ntmps64
  go_wp2_with fail
  obtain ⟨w0, e0, hk0, hb0, -⟩ := alloc_prob w o.N o.arcs o.near ao ca bo cb
  rw [e0]
  clear e0
  have HK0 := Lib.hid hk0
  clear hk0 hb0
  refine (straight_ok o ao bo ca cb w0 (HO.out.kept HK0.out) H1.out H2.out).mono ?_
  rintro e w1 ⟨b, rfl, hw1, hk1⟩
  have HW1 := Lib.hid hw1
  have HK1 := Lib.hid (HK0.out.trans hk1)
  clear hw1 hk1
  have HT : Hid ((freePt (webOf o) (webOf o).n).1 = freeL (webOf o)) := Lib.hid rfl
  generalize freeL (webOf o) = total at *
  generalize webOf o = W at *
  go_wp2_with fail
  refine (whole_any b W w1 HW1.out hn).mono ?_
  rintro e w2 ⟨rfl, rfl⟩
  go_wp2_with fail
  refine (broad_any b W (wholeS W.n) w1 HW1.out hn).mono ?_
  rintro e w2 ⟨rfl, hk2⟩
  have HW2 := Lib.hid (HW1.out.kept hk2)
  have HK2 := Lib.hid (HK1.out.trans hk2)
  have q0 := HW2.out.n
  have HB2 : Hid (b < w2.heap.size) := lt_of_cell HW2.out.n
  have HZ2 : Hid (w.heap.size ≤ w2.heap.size) := HK2.out.size
  clear hk2 HW1
  go_wp2
  clear q0
  go_loopw [6, 7, 8, 29] (fun ov sv lv i wr => ∃ k : Nat, k ≤ W.n ∧ i = .int .i64 k ∧ sv = .int .u32 (sI (freePt W k).2.1) ∧ lv = .int .i64 (freePt W k).2.2 ∧ OwnI wr w2.heap.size ov (freePt W k).1 ∧ w2.heap.size ≤ wr.heap.size ∧ WebAt wr b W ∧ Kept w wr) (fun _ _ _ i _ => W.n - (intOf i).toNat)
  case atStart => exact ⟨0, Nat.zero_le _, rfl, rfl, rfl, OwnI.nil _ _, Nat.le_refl _, HW2.out, HK2.out⟩
  case round =>
    clear HW2 HK2
    obtain ⟨k, hk, rfl, rfl, rfl, hown, hsz, hwb, hkw⟩ := hrel
    have HSZ := Lib.hid hsz
    clear hsz
    have HOWN := Lib.hid hown
    have HWB := Lib.hid hwb
    have HKW := Lib.hid hkw
    clear hown hwb hkw
    by_cases hlt : k < W.n
    · have hk32 : k < 32 := by omega
      have hk1 : k + 1 < 32 := by omega
      have hfs := freePt_succ W k
      obtain ⟨hf1, hf2, hf3⟩ := freeStep_facts W k hk
      have hbb := broadI_bound W (wholeS W.n)
      have HF1 := Lib.hid hf1
      have hlv : -100 ≤ (freePt W k).2.2 ∧ (freePt W k).2.2 ≤ 100 := by omega
      clear hf1 hf2 hf3 hbb
      have HFS := Lib.hid hfs
      clear hfs
      generalize freePt W k = st at *
      obtain ⟨out, some_, left⟩ := st
      simp only at hlv
      dsimp only
      have hw1 : IntKind.i64.wrap (left - 1) = left - 1 := IntWalk.i64_in _ (by omega)
      have hsub := sub_one_val (k + 1) hk1
      go_wp2_with fail
      refine (has_any some_ k _ hk32).mono ?_
      rintro e w3 ⟨rfl, rfl⟩
      cases h1 : hasS some_ k
      all_goals
        have H1 := Lib.hid h1
        clear h1
      · go_wp2
        go_roundw
        case rel =>
          refine ⟨k + 1, by omega, by go_num, ?_, ?_, ?_, HSZ.out, HWB.out, HKW.out⟩
          all_goals
            rw [HFS.out]
            unfold freeStep
            rw [if_pos (.inl H1.out)]
          exact HOWN.out
        case measure => simp [intOf]; omega
      · by_cases hz : left = 0
        · have hb : (left == 0) = true := by simp [hz]
          have HZ := Lib.hid hz
          clear hz
          go_wp2
          go_roundw
          case rel =>
            refine ⟨k + 1, by omega, by go_num, ?_, ?_, ?_, HSZ.out, HWB.out, HKW.out⟩
            all_goals
              rw [HFS.out]
              unfold freeStep
              rw [if_pos (.inr HZ.out)]
            exact HOWN.out
          case measure => simp [intOf]; omega
        · have hb : (left == 0) = false := by simp [hz]
          have HZ := Lib.hid hz
          clear hz
          have HST : Hid (¬ (hasS some_ k = false ∨ left = 0)) := fun h => h.elim (fun h => by rw [H1.out] at h; cases h) HZ.out
          go_wp2_with fail
          rw [show (k : Int) + 1 = ((k + 1 : Nat) : Int) by omega]
          refine (one_any (k + 1) _ hk1).mono ?_
          rintro e w3 ⟨rfl, rfl⟩
          go_wp2_with fail
          refine (free_any b W (aboveS some_ k) k _ HWB.out hn hlt).mono ?_
          rintro e w3 ⟨rfl, rfl⟩
          go_wp2_with fail
          refine (broad_any b W (freeS W (aboveS some_ k) k) _ HWB.out hn).mono ?_
          rintro e w3 ⟨rfl, hk3⟩
          have HO3 := Lib.hid (HOWN.out.kept hk3)
          have HW3 := Lib.hid (HWB.out.kept hk3)
          have HK3 := Lib.hid (HKW.out.trans hk3)
          have HS3 := Lib.hid (Nat.le_trans HSZ.out hk3.size)
          clear hk3 HOWN HWB HKW HSZ
          cases hbl : (broadI W (freeS W (aboveS some_ k) k) == left - 1)
          · have hbl' : ¬ broadI W (freeS W (aboveS some_ k) k) = left - 1 := by simpa using hbl
            have HBL := Lib.hid hbl'
            clear hbl'
            go_wp2
            go_roundw
            case rel =>
              refine ⟨k + 1, by omega, by go_num, ?_, ?_, ?_, HS3.out, HW3.out, HK3.out⟩
              all_goals
                rw [HFS.out]
                unfold freeStep
                rw [if_neg HST.out, if_neg HBL.out]
              exact HO3.out
            case measure => simp [intOf]; omega
          · have hbl' : broadI W (freeS W (aboveS some_ k) k) = left - 1 := by simpa using hbl
            have HBL := Lib.hid hbl'
            clear hbl'
            have hol : out.length < 1099511627776 := by have := HF1.out; omega
            have hbs : w2.heap.size ≤ (w3.alloc (.cells #[Value.int .i64 (k : Int)] 3)).heap.size := by have := HS3.out; simp; omega
            have hcl : (w3.alloc (.cells #[Value.int .i64 (k : Int)] 3)).cell? ⟨w3.heap.size, 0, none⟩ = some (.int .i64 k) := by simp [go_sem]
            have HOL := Lib.hid hol
            have HBS := Lib.hid hbs
            have HCL := Lib.hid hcl
            clear hol hbs hcl
            go_wp2_with (at_builtin; refine append_int _ rfl _ _ rfl w2.heap.size u6 out rfl (HO3.out.kept ((Kept.refl _).alloc _)) w3.heap.size 1 k rfl HCL.out HOL.out HBS.out ?_; intro g' c' w4 hown4 hg4; have HO4 := Lib.hid hown4; have hk4 := (HK3.out.alloc (.cells #[Value.int .i64 (k : Int)] 3)).grown hg4 (fun r e => Nat.le_trans HZ2.out (HO3.out.lt r e).1); have HK4 := Lib.hid hk4; have hw4 := (HW3.out.kept ((Kept.refl w3).alloc (.cells #[Value.int .i64 (k : Int)] 3))).grownNe hg4 (fun e => by have h1 := (HO3.out.lt b e.symm).1; have h2 := HB2.out; omega); have HW4 := Lib.hid hw4; have HS4 := Lib.hid (Nat.le_trans HBS.out hg4.size); clear hown4 hg4 hk4 hw4)
            refine ⟨⟨k + 1, by omega, by go_num, ?_, ?_, ?_, HS4.out, HW4.out, HK4.out⟩, by simp [intOf]; omega⟩
            all_goals
              rw [HFS.out]
              unfold freeStep
              rw [if_neg HST.out, if_pos HBL.out]
            exact HO4.out
    · have ek : k = W.n := by omega
      have HF : Hid ((freePt W k).1 = total) := by show _ = _; rw [ek]; exact HT.out
      clear ek
      generalize freePt W k = st at *
      obtain ⟨out, some_, left⟩ := st
      dsimp only
      go_wp2
      go_ret2
      rw [← HF.out]
      exact ⟨_, rfl, (HOWN.out.base HZ2.out).new, HKW.out⟩

set_option maxHeartbeats 400000 in
theorem Free_any (o : Prob) (ao bo : Option Addr) (ca cb : Nat) (w : World) (ho : IsProb w o ao bo) :
    Calls Try.prog 64 #[probV o ao ca bo cb] w (ListErr (FreeR o).1 (FreeR o).2 w) := by
  by_cases h : errS o = 0
  · have hr : FreeR o = (freeL (webOf o), 0) := by unfold FreeR; rw [if_pos h]
    rw [hr]
    exact Free_ok o ao bo ca cb w ho h
  · have hr : FreeR o = ([], errS o) := by unfold FreeR; rw [if_neg h]
    rw [hr]
    have HO := Lib.hid ho
    have H := Lib.hid h
    have hb : (errS o != 0) = true := by simp [h]
    clear hr h ho
    go_enter Try.func64, Try.ntmps64
    go_wp2_with fail
    obtain ⟨w0, e0, hk0, hb0, -⟩ := alloc_prob w o.N o.arcs o.near ao ca bo cb
    rw [e0]
    clear e0
    have HK0 := Lib.hid hk0
    clear hk0 hb0
    refine (straight_bad o ao bo ca cb w0 (HO.out.kept HK0.out) H.out).mono ?_
    rintro e w1 ⟨rfl, hk1⟩
    have HK1 := Lib.hid (HK0.out.trans hk1)
    clear hk1
    go_wp2
    go_ret2
    exact ⟨_, rfl, NewI.nil _ _, HK1.out⟩
end Go.Proofs.Yteljjkghjbofnaa
