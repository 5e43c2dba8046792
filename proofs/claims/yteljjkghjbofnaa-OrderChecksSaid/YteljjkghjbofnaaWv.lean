/- matched: the closure that looks for a next patch. -/
import Derived.Test.YteljjkghjbofnaaPb
import Derived.Test.YteljjkghjbofnaaPc
import Derived.Test.YteljjkghjbofnaaWu
set_option maxRecDepth 100000
namespace Go.Proofs.Yteljjkghjbofnaa
open Go Go.Proofs Go.RowKit
attribute [local go_sem] Oper.semAt_some

/-! ### What was seen -/

theorem filter_len_le {α : Type} {p q : α → Bool} : ∀ {l : List α}, (∀ x ∈ l, p x = true → q x = true) → (l.filter p).length ≤ (l.filter q).length
  | [], _ => by simp
  | z :: l, h => by
    have := filter_len_le (p := p) (q := q) (l := l) (fun u hu => h u (List.mem_cons_of_mem _ hu))
    have h1 := h z (List.mem_cons_self ..)
    simp only [List.filter_cons]
    split <;> split <;> simp_all <;> omega
theorem unseen_lt {n q : Nat} {s : S} (hn : n ≤ 32) (hq : q < n) (h : hasS s q = false) : unseen n (s ||| oneS q) < unseen n s := by
  unfold unseen
  refine filter_len_lt (fun x _ hx => ?_) (List.mem_range.2 hq) ?_ ?_
  · rw [hasS_or] at hx
    simp at hx ⊢
    exact hx.1
  · rw [hasS_or, hasS_one q q (by omega)]; simp
  · simp [h]
theorem unseen_mono {n : Nat} {s t : S} (h : ∀ x, hasS s x = true → hasS t x = true) : unseen n t ≤ unseen n s := by
  unfold unseen
  refine filter_len_le (fun x _ hx => ?_)
  cases hs : hasS s x
  · rfl
  · rw [h x hs] at hx; cases hx
theorem findGo_seen {W : Web} {some : S} {sub : Nat → MS → Bool × MS} {x : Nat} (hsub : ∀ p st, hasS st.seen x = true → hasS (sub p st).2.seen x = true) {p : Nat} : ∀ (qs : List Nat) (st : MS), hasS st.seen x = true → hasS (findGo W some sub p qs st).2.seen x = true
  | [], _, h => h
  | q :: qs, st, h => by
    have h1 : hasS (st.see q).seen x = true := by unfold MS.see; simp only [hasS_or, h, Bool.true_or]
    unfold findGo
    split
    · split
      · exact h1
      · have h2 := hsub (st.before.getD q 0).toNat (st.see q) h1
        split
        · exact h2
        · exact findGo_seen hsub qs _ h2
    · exact findGo_seen hsub qs _ h
theorem findF_seen {W : Web} {some : S} {x : Nat} : ∀ (f p : Nat) (st : MS), hasS st.seen x = true → hasS (findF W some f p st).2.seen x = true
  | 0, _, _, h => h
  | f + 1, _, _, h => findGo_seen (fun p st h => findF_seen f p st h) _ _ h

/-! ### What lies in memory -/

def findV (wb sb bb fb nb : Nat) : Value := .func (.func 155) #[] #[.pointer (some ⟨wb, 0, none⟩), .pointer (some ⟨sb, 0, none⟩), .pointer (some ⟨bb, 0, none⟩), .pointer (some ⟨fb, 0, none⟩), .pointer (some ⟨nb, 0, none⟩)]
/-- Where all lies, and that it lies apart. -/
structure FA (B wb sb bb fb nb b ks : Nat) : Prop where
  ln : B ≤ nb
  lb : B ≤ bb
  lk : B ≤ ks
  n1 : nb ≠ bb ∧ nb ≠ wb ∧ nb ≠ sb ∧ nb ≠ fb ∧ nb ≠ b
  b1 : bb ≠ wb ∧ bb ≠ sb ∧ bb ≠ fb ∧ bb ≠ b
  k1 : ks ≠ nb ∧ ks ≠ bb ∧ ks ≠ wb ∧ ks ≠ sb ∧ ks ≠ fb ∧ ks ≠ b
structure FB (wb sb bb fb nb b : Nat) (W : Web) (some_ : S) (next before : List Int) (X : World) : Prop where
  web : X.cell? ⟨wb, 0, none⟩ = some (.pointer (some ⟨b, 0, none⟩))
  set : X.cell? ⟨sb, 0, none⟩ = some (.int .u32 (sI some_))
  fn : X.cell? ⟨fb, 0, none⟩ = some (findV wb sb bb fb nb)
  at_ : WebAt X b W
  nx : Arr X nb next
  bf : Arr X bb before
structure SeenAt (ks : Nat) (s : S) (X : World) : Prop where
  cell : X.cell? ⟨ks, 0, none⟩ = some (.int .u32 (sI s))
  free : X.frozen? ⟨ks, 0, none⟩ = false

section
variable {B wb sb bb fb nb b ks : Nat} {W : Web} {some_ : S} {next before : List Int} {X Y : World} {s : S}
theorem FB.kept (h : FB wb sb bb fb nb b W some_ next before X) (hk : Kept X Y) : FB wb sb bb fb nb b W some_ next before Y := ⟨hk.cell h.web, hk.cell h.set, hk.cell h.fn, h.at_.kept hk, h.nx.kept hk, h.bf.kept hk⟩
theorem SeenAt.kept (h : SeenAt ks s X) (hk : Kept X Y) : SeenAt ks s Y := ⟨hk.cell h.cell, (hk.cells.2 ks 0 (lt_of_cell h.cell)).trans h.free⟩
theorem FB.setSeen (h : FB wb sb bb fb nb b W some_ next before X) (hf : FA B wb sb bb fb nb b ks) (u : Value) : FB wb sb bb fb nb b W some_ next before (X.setCell ⟨ks, 0, none⟩ u) :=
  ⟨cell_set_block h.web hf.k1.2.2.1.symm, cell_set_block h.set hf.k1.2.2.2.1.symm, cell_set_block h.fn hf.k1.2.2.2.2.1.symm, h.at_.setOther hf.k1.2.2.2.2.2.symm, h.nx.setOther hf.k1.1.symm, h.bf.setOther hf.k1.2.1.symm⟩
theorem SeenAt.set (h : SeenAt ks s X) (t : S) : SeenAt ks t (X.setCell ⟨ks, 0, none⟩ (.int .u32 (sI t))) := ⟨cell_set_same h.cell, by rw [World.frozen?_setCell]; exact h.free⟩
theorem SeenAt.other (h : SeenAt ks s X) {b' o : Nat} (hne : ks ≠ b') (u : Value) : SeenAt ks s (X.setCell ⟨b', o, none⟩ u) := ⟨cell_set_block h.cell hne, by rw [World.frozen?_setCell]; exact h.free⟩
theorem FB.setNext (h : FB wb sb bb fb nb b W some_ next before X) (hf : FA B wb sb bb fb nb b ks) (p : Nat) (x : Int) : FB wb sb bb fb nb b W some_ (next.set p x) before (X.setCell ⟨nb, p, none⟩ (.int .i64 x)) :=
  ⟨cell_set_block h.web hf.n1.2.1.symm, cell_set_block h.set hf.n1.2.2.1.symm, cell_set_block h.fn hf.n1.2.2.2.1.symm, h.at_.setOther hf.n1.2.2.2.2.symm, h.nx.set x, h.bf.setOther hf.n1.1.symm⟩
theorem FB.setBefore (h : FB wb sb bb fb nb b W some_ next before X) (hf : FA B wb sb bb fb nb b ks) (p : Nat) (x : Int) : FB wb sb bb fb nb b W some_ next (before.set p x) (X.setCell ⟨bb, p, none⟩ (.int .i64 x)) :=
  ⟨cell_set_block h.web hf.b1.1.symm, cell_set_block h.set hf.b1.2.1.symm, cell_set_block h.fn hf.b1.2.2.1.symm, h.at_.setOther hf.b1.2.2.2.symm, h.nx.setOther hf.n1.1, h.bf.set x⟩
end

def FindPost (B wb sb bb fb nb b ks : Nat) (W : Web) (some_ : S) (r : Bool × MS) (w : World) (e : Ending) (w' : World) : Prop :=
  e = .returned (.bool r.1) ∧ FB wb sb bb fb nb b W some_ r.2.next r.2.before w' ∧ SeenAt ks r.2.seen w' ∧ Below B w w'

theorem findGo_cons {W : Web} {some_ : S} {sub : Nat → MS → Bool × MS} {p q m : Nat} {st : MS} : findGo W some_ sub p (List.range' q (m + 1)) st = findGo W some_ sub p (q :: List.range' (q + 1) m) st := by rw [List.range'_succ]
theorem findGo_skip {W : Web} {some_ : S} {sub : Nat → MS → Bool × MS} {p q : Nat} {qs : List Nat} {st : MS} (h : wants W some_ p st q = false) : findGo W some_ sub p (q :: qs) st = findGo W some_ sub p qs st := by
  rw [findGo, if_neg (by rw [h]; simp)]
theorem findGo_take {W : Web} {some_ : S} {sub : Nat → MS → Bool × MS} {p q : Nat} {qs : List Nat} {st : MS} (h : wants W some_ p st q = true) (h0 : st.before.getD q 0 < 0) : findGo W some_ sub p (q :: qs) st = (true, (st.see q).pair p q) := by
  rw [findGo, if_pos h, if_pos h0]
theorem findGo_yes {W : Web} {some_ : S} {sub : Nat → MS → Bool × MS} {p q r : Nat} {qs : List Nat} {st : MS} (h : wants W some_ p st q = true) (h0 : st.before.getD q 0 = (r : Int)) (h1 : (sub r (st.see q)).1 = true) : findGo W some_ sub p (q :: qs) st = (true, (sub r (st.see q)).2.pair p q) := by
  rw [findGo, if_pos h, if_neg (by omega), h0, Int.toNat_natCast, if_pos h1]
theorem findGo_no {W : Web} {some_ : S} {sub : Nat → MS → Bool × MS} {p q r : Nat} {qs : List Nat} {st : MS} (h : wants W some_ p st q = true) (h0 : st.before.getD q 0 = (r : Int)) (h1 : (sub r (st.see q)).1 = false) : findGo W some_ sub p (q :: qs) st = findGo W some_ sub p qs (sub r (st.see q)).2 := by
  rw [findGo, if_pos h, if_neg (by omega), h0, Int.toNat_natCast, if_neg (by rw [h1]; simp)]

set_option maxHeartbeats 1600000 in
theorem find_any (B wb sb bb fb nb b ks : Nat) (W : Web) (some_ : S) (hn : W.n ≤ 24) (hf : FA B wb sb bb fb nb b ks) : ∀ (f p : Nat) (st : MS) (w : World), unseen W.n st.seen ≤ f → p < W.n → st.Ok W.n → FB wb sb bb fb nb b W some_ st.next st.before w → SeenAt ks st.seen w →
    Calls Try.prog 155 #[.int .i64 p, .pointer (some ⟨ks, 0, none⟩), .pointer (some ⟨wb, 0, none⟩), .pointer (some ⟨sb, 0, none⟩), .pointer (some ⟨bb, 0, none⟩), .pointer (some ⟨fb, 0, none⟩), .pointer (some ⟨nb, 0, none⟩)] w (FindPost B wb sb bb fb nb b ks W some_ (findF W some_ (f + 1) p st) w) := by
  intro f
  induction f using Nat.strongRecOn with
  | ind f ih =>
    intro p st w hu hp hok hfb hse
    have IH := Lib.hid ih
    have HFA := Lib.hid hf
    have HFB := Lib.hid hfb
    have HSE := Lib.hid hse
    have HOK := Lib.hid hok
    have HU := Lib.hid hu
    have HT : Hid (findGo W some_ (findF W some_ f) p (List.range' 0 (W.n - 0)) st = findF W some_ (f + 1) p st) := by
      show _ = _
      rw [Nat.sub_zero, ← List.range_eq_range']
      rfl
    generalize findF W some_ (f + 1) p st = T at *
    clear ih hf hok hu
    have q1 := hfb.web
    have q2 := hfb.at_.n
    clear hfb hse
    go_enter Try.func155, Try.ntmps155
    go_wp2
    clear q1 q2
    go_loopw [15] (fun i wr => ∃ (q : Nat) (st' : MS), i = .int .i64 q ∧ q ≤ W.n ∧ FB wb sb bb fb nb b W some_ st'.next st'.before wr ∧ SeenAt ks st'.seen wr ∧ Below B w wr ∧ st'.Ok W.n ∧ unseen W.n st'.seen ≤ f ∧ findGo W some_ (findF W some_ f) p (List.range' q (W.n - q)) st' = T)
      (fun i _ => W.n - (intOf i).toNat)
    case atStart => exact ⟨0, st, rfl, Nat.zero_le _, HFB.out, HSE.out, Below.refl _ _, HOK.out, HU.out, HT.out⟩
    case round =>
      clear HFB HSE HOK HU HT st
      obtain ⟨q, st, rfl, hq, hfb, hse, hbl, hok, hu, ht⟩ := hrel
      have HFB := Lib.hid hfb
      have HSE := Lib.hid hse
      have HBL := Lib.hid hbl
      have HOK := Lib.hid hok
      have HU := Lib.hid hu
      have HT := Lib.hid ht
      have q1 := hfb.web
      have q2 := hfb.set
      have q3 := hfb.fn
      unfold findV at q3
      have s1 := hse.cell
      have s2 := hse.free
      have l3 := lt_of_cell s1
      clear hfb hse hbl hok hu ht
      by_cases hlt : q < W.n
      · have hq32 : q < 32 := by omega
        have hq24 : (q : Int) < 24 := by omega
        have hp24 : (p : Int) < 24 := by omega
        obtain ⟨m, hm⟩ : ∃ m, W.n - q = m + 1 := ⟨W.n - q - 1, by omega⟩
        have HM := Lib.hid hm
        clear hm
        have rch := HFB.out.at_.reach p (by omega)
        go_wp2_with fail
        refine (has_any some_ q _ hq32).mono ?_
        rintro e w2 ⟨rfl, rfl⟩
        cases h1 : hasS some_ q
        all_goals
          have H1 := Lib.hid h1
          clear h1
        · go_wp2
          go_roundw
          case rel =>
            refine ⟨q + 1, st, by go_num, by omega, HFB.out, HSE.out, HBL.out, HOK.out, HU.out, ?_⟩
            have := HT.out
            rw [HM.out, findGo_cons, findGo_skip (by unfold wants; rw [H1.out]; rfl)] at this
            rw [show W.n - (q + 1) = m by have := HM.out; omega]
            exact this
          case measure => simp [intOf]; omega
        · go_wp2_with fail
          refine (has_any st.seen q _ hq32).mono ?_
          rintro e w2 ⟨rfl, rfl⟩
          cases h2 : hasS st.seen q
          all_goals
            have H2 := Lib.hid h2
            clear h2
          · go_wp2_with fail
            refine (has_any (W.reach p) q _ hq32).mono ?_
            rintro e w2 ⟨rfl, rfl⟩
            cases h3 : hasS (W.reach p) q
            all_goals
              have H3 := Lib.hid h3
              clear h3
            · go_wp2
              go_roundw
              case rel =>
                refine ⟨q + 1, st, by go_num, by omega, HFB.out, HSE.out, HBL.out, HOK.out, HU.out, ?_⟩
                have := HT.out
                rw [HM.out, findGo_cons, findGo_skip (by unfold wants; rw [H1.out, H2.out, H3.out]; rfl)] at this
                rw [show W.n - (q + 1) = m by have := HM.out; omega]
                exact this
              case measure => simp [intOf]; omega
            · have HW : Hid (wants W some_ p st q = true) := by show _ = _; unfold wants; rw [H1.out, H2.out, H3.out]; rfl
              have hb := (HOK.out).getB (q := q) (by omega)
              have hbl : q < st.before.length := by rw [HOK.out.before.1]; omega
              have hbc := HFB.out.bf.get q hbl
              have hbd : st.before.getD q 0 = st.before[q] := by rw [List.getD_eq_getElem?_getD, List.getElem?_eq_getElem hbl]; rfl
              rw [hbd] at hb
              generalize st.before[q] = bq at hb hbc hbd
              have HBD := Lib.hid hbd
              have hsame : Hid (FB wb sb bb fb nb b W some_ (st.see q).next (st.see q).before (wr.setCell ⟨ks, 0, none⟩ (.int .u32 (sI (st.seen ||| oneS q)))).drew) := (HFB.out.setSeen HFA.out _).kept (Kept.refl _).drew
              have hsees : Hid (SeenAt ks (st.see q).seen (wr.setCell ⟨ks, 0, none⟩ (.int .u32 (sI (st.seen ||| oneS q)))).drew) := (HSE.out.set _).kept (Kept.refl _).drew
              have hbelow : Hid (Below B w (wr.setCell ⟨ks, 0, none⟩ (.int .u32 (sI (st.seen ||| oneS q)))).drew) := (HBL.out.setCell (p := ⟨ks, 0, none⟩) HFA.out.lk _).drew
              have hus : Hid (unseen W.n (st.see q).seen < unseen W.n st.seen) := unseen_lt (by omega) hlt H2.out
              have hoks : Hid ((st.see q).Ok W.n) := HOK.out.see q
              clear hbl hbd q1 q2 q3 rch
              go_wp2
              refine region_tail 7 (by kernel_rfl) (by kernel_rfl) ?_
              simp only [List.take_succ_cons, List.take_zero, List.drop_succ_cons, List.drop_zero]
              repeat still_step
              still_call Calls_still (one_any _ _ hq32)
              repeat still_step
              refine wpStill_nil ?_
              go_wp2
              have hbc2 : (wr.setCell ⟨ks, 0, none⟩ (.int .u32 (sI (st.seen ||| oneS q)))).drew.cell? ⟨bb, q, none⟩ = some (.int .i64 bq) := cell_set_block hbc HFA.out.k1.2.1.symm
              generalize (wr.setCell ⟨ks, 0, none⟩ (.int .u32 (sI (st.seen ||| oneS q)))).drew = wx at *
              clear s1 s2 l3 hbc
              have q3 := hsame.out.fn
              unfold findV at q3
              have lb := lt_of_cell hbc2
              have fb2 := hsame.out.bf.free q
              have hpl : p < st.next.length := by rw [HOK.out.next.1]; omega
              obtain ⟨np, hpc⟩ : ∃ np, wx.cell? ⟨nb, p, none⟩ = some (.int .i64 np) := ⟨_, hsame.out.nx.get p hpl⟩
              have ln := lt_of_cell hpc
              have fn2 := hsame.out.nx.free p
              clear hpl
              by_cases hneg : bq < 0
              · have hTE : Hid ((true, (st.see q).pair p q) = T) := by
                  show _ = _
                  have := HT.out
                  rw [HM.out, findGo_cons, findGo_take HW.out (by rw [HBD.out]; exact hneg)] at this
                  exact this
                refine region_tail 10 (by kernel_rfl) (by kernel_rfl) ?_
                simp only [List.take_succ_cons, List.take_zero, List.drop_succ_cons, List.drop_zero]
                have hcq : (wx.setCell ⟨nb, p, none⟩ (.int .i64 q)).cell? ⟨bb, q, none⟩ = some (.int .i64 bq) := cell_set_block hbc2 HFA.out.n1.1.symm
                iterate 5 still_step
                iterate 5
                  with_reducible refine wpStill_skip ?_ ?_
                  · rfl
                  simp only [Act.put, List.setIfInBounds_toArray, List.set_cons_zero, List.set_cons_succ]
                with_reducible refine wpStill_nil ?_
                go_wp2
                go_ret
                rw [← hTE.out]
                refine ⟨rfl, ?_, ?_, ?_⟩
                · exact (((hsame.out.setNext HFA.out p (q : Int)).setBefore HFA.out q (p : Int)).kept (Kept.refl _).drew)
                · exact (((hsees.out.other HFA.out.k1.1 _).other HFA.out.k1.2.1 _).kept (Kept.refl _).drew)
                · exact ((hbelow.out.setCell (p := ⟨nb, p, none⟩) HFA.out.ln _).setCell (p := ⟨bb, q, none⟩) HFA.out.lb _).drew
              · obtain ⟨r, rfl⟩ : ∃ r : Nat, bq = (r : Int) := ⟨bq.toNat, by omega⟩
                have hrn : r < W.n := by omega
                have HNEG := Lib.hid hneg
                have hdl : decide ((r : Int) < 0) = false := decide_eq_false hneg
                have hTY : Hid ((findF W some_ f r (st.see q)).1 = true → (true, (findF W some_ f r (st.see q)).2.pair p q) = T) := fun h => by
                  have := HT.out
                  rw [HM.out, findGo_cons, findGo_yes HW.out HBD.out h] at this
                  exact this
                have hTN : Hid ((findF W some_ f r (st.see q)).1 = false → findGo W some_ (findF W some_ f) p (List.range' (q + 1) m) (findF W some_ f r (st.see q)).2 = T) := fun h => by
                  have := HT.out
                  rw [HM.out, findGo_cons, findGo_no HW.out HBD.out h] at this
                  exact this
                have hfpos : f - 1 < f ∧ unseen W.n (st.see q).seen ≤ f - 1 ∧ f - 1 + 1 = f := by have h1 := hus.out; have h2 := HU.out; exact ⟨by omega, by omega, by omega⟩
                have hcall := IH.out (f - 1) hfpos.1 r (st.see q) wx.drew hfpos.2.1 hrn hoks.out (hsame.out.kept (Kept.refl _).drew) (hsees.out.kept (Kept.refl _).drew)
                rw [hfpos.2.2] at hcall
                have hok2 : Hid ((findF W some_ f r (st.see q)).2.Ok W.n) := findF_ok hn _ _ _ hrn hoks.out
                have hun2 : Hid (unseen W.n (findF W some_ f r (st.see q)).2.seen ≤ f) := by
                  have h1 := unseen_mono (n := W.n) (s := (st.see q).seen) (t := (findF W some_ f r (st.see q)).2.seen) (fun x hx => findF_seen f r (st.see q) hx)
                  have h2 := hfpos.2.1
                  show _ ≤ _
                  omega
                generalize findF W some_ f r (st.see q) = R at *
                have HCALL := Lib.hid hcall
                clear hcall hfpos hneg hpc ln fn2
                refine region_tail 10 (by kernel_rfl) (by kernel_rfl) ?_
                simp only [List.take_succ_cons, List.take_zero, List.drop_succ_cons, List.drop_zero]
                iterate 5 still_step
                iterate 5
                  with_reducible refine wpStill_want ?_ (fun K hK => ?_)
                  · rfl
                  go_simp
                  refine hK _ ?_
                  clear hK K
                with_reducible refine wpStill_nil ?_
                go_wp2_with fail
                refine HCALL.out.mono ?_
                rintro e w3 ⟨rfl, hfb3, hse3, hbl3⟩
                have HFB3 := Lib.hid hfb3
                have HSE3 := Lib.hid hse3
                have HBL3 := Lib.hid (hbelow.out.drew.trans hbl3)
                clear hfb3 hse3 hbl3 hbc2 q3 lb fb2
                cases hR : R.1
                all_goals
                  have HR := Lib.hid hR
                  clear hR
                · go_wp2
                  go_roundw
                  case rel =>
                    refine ⟨q + 1, R.2, by go_num, by omega, HFB3.out, HSE3.out, HBL3.out, hok2.out, hun2.out, ?_⟩
                    rw [show W.n - (q + 1) = m by have := HM.out; omega]
                    exact hTN.out HR.out
                  case measure => simp [intOf]; omega
                · have hbl : q < R.2.before.length := by rw [hok2.out.before.1]; omega
                  have hpl : p < R.2.next.length := by rw [hok2.out.next.1]; omega
                  obtain ⟨np, hpc⟩ : ∃ np, w3.cell? ⟨nb, p, none⟩ = some (.int .i64 np) := ⟨_, HFB3.out.nx.get p hpl⟩
                  obtain ⟨bq, hbc⟩ : ∃ bq, w3.cell? ⟨bb, q, none⟩ = some (.int .i64 bq) := ⟨_, HFB3.out.bf.get q hbl⟩
                  have ln := lt_of_cell hpc
                  have lb := lt_of_cell hbc
                  have fn2 := HFB3.out.nx.free p
                  have fb2 := HFB3.out.bf.free q
                  have hcq : (w3.setCell ⟨nb, p, none⟩ (.int .i64 q)).cell? ⟨bb, q, none⟩ = some (.int .i64 bq) := cell_set_block hbc HFA.out.n1.1.symm
                  clear hbl hpl
                  go_wp2
                  go_ret
                  rw [← hTY.out HR.out]
                  refine ⟨rfl, ?_, ?_, ?_⟩
                  · exact ((HFB3.out.setNext HFA.out p (q : Int)).setBefore HFA.out q (p : Int))
                  · exact ((HSE3.out.other HFA.out.k1.1 _).other HFA.out.k1.2.1 _)
                  · exact ((HBL3.out.setCell (p := ⟨nb, p, none⟩) HFA.out.ln _).setCell (p := ⟨bb, q, none⟩) HFA.out.lb _)
          · go_wp2
            go_roundw
            case rel =>
              refine ⟨q + 1, st, by go_num, by omega, HFB.out, HSE.out, HBL.out, HOK.out, HU.out, ?_⟩
              have := HT.out
              rw [HM.out, findGo_cons, findGo_skip (by unfold wants; rw [H1.out, H2.out]; rfl)] at this
              rw [show W.n - (q + 1) = m by have := HM.out; omega]
              exact this
            case measure => simp [intOf]; omega
      · have hqn : q = W.n := by omega
        have ht : (false, st) = T := by have := HT.out; rw [hqn, Nat.sub_self] at this; exact this
        have HTE := Lib.hid ht
        clear hqn ht
        go_wp2
        go_ret
        rw [← HTE.out]
        exact ⟨rfl, HFB.out, HSE.out, HBL.out⟩
end Go.Proofs.Yteljjkghjbofnaa
