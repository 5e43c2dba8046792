/- ref.extend. -/
import Derived.Test.YteljjkghjbofnaaVb
set_option maxRecDepth 100000
namespace Go.Proofs.Yteljjkghjbofnaa
open Go Go.Proofs Go.RowKit
attribute [local go_sem] Oper.semAt_some

/-- A list in memory, nil only when empty. -/
def ListP (c : List Int) (w : World) (e : Ending) (w' : World) : Prop :=
  ∃ so sc, e = .returned (.slice so c.length sc) ∧ Ints w' so c ∧ (c = [] → so = none ∧ sc = 0) ∧ (c ≠ [] → ∃ ad, so = some ad) ∧ Kept w w'

theorem extF_range {W : Web} {f a k : Nat} {l : List Int} (h : firstSome (extG W (extF W f) l) (List.range' (a + 1) k) = []) (g : extG W (extF W f) l (a + 1 + k) = []) : firstSome (extG W (extF W f) l) (List.range' (a + 1) (k + 1)) = [] := by
  refine firstSome_none fun b hb => ?_
  rw [List.mem_range'_1] at hb
  by_cases e : b = a + 1 + k
  · rw [e]; exact g
  · refine Classical.byContradiction fun hne => ?_
    have hm : b ∈ List.range' (a + 1) k := by rw [List.mem_range'_1]; omega
    obtain ⟨A, B, hAB⟩ := List.append_of_mem hm
    clear hb
    -- the first that is not empty stops the search
    have key : ∀ bs : List Nat, (∃ x ∈ bs, extG W (extF W f) l x ≠ []) → firstSome (extG W (extF W f) l) bs ≠ [] := by
      intro bs
      induction bs with
      | nil => rintro ⟨x, hx, _⟩; cases hx
      | cons y t ih =>
        rintro ⟨x, hx, hxx⟩
        unfold firstSome
        by_cases hy : extG W (extF W f) l y = []
        · rw [if_pos hy]
          rcases List.mem_cons.1 hx with rfl | hx
          · exact absurd hy hxx
          · exact ih ⟨x, hx, hxx⟩
        · rw [if_neg hy]; exact hy
    exact key _ ⟨b, hm, hne⟩ h
theorem extF_hit {W : Web} {f a k n : Nat} {l : List Int} (h : firstSome (extG W (extF W f) l) (List.range' (a + 1) k) = []) (hk : a + 1 + k < n) (g : extG W (extF W f) l (a + 1 + k) ≠ []) : firstSome (extG W (extF W f) l) (List.range' (a + 1) (n - (a + 1))) = extG W (extF W f) l (a + 1 + k) := by
  have e : List.range' (a + 1) (n - (a + 1)) = List.range' (a + 1) k ++ (a + 1 + k) :: List.range' (a + 1 + k + 1) (n - (a + 1) - k - 1) := by
    rw [← List.range'_succ, List.range'_append_1]
    congr 1
    omega
  rw [e]
  have key : ∀ bs : List Nat, firstSome (extG W (extF W f) l) bs = [] → ∀ x ∈ bs, extG W (extF W f) l x = [] := by
    intro bs
    induction bs with
    | nil => intro _ x hx; cases hx
    | cons y t ih =>
      intro hb x hx
      unfold firstSome at hb
      by_cases hy : extG W (extF W f) l y = []
      · rw [if_pos hy] at hb
        rcases List.mem_cons.1 hx with rfl | hx
        · exact hy
        · exact ih hb x hx
      · rw [if_neg hy] at hb; exact absurd hb hy
  exact firstSome_at g (key _ h)

set_option maxHeartbeats 2000000 in
theorem Rext_any (o : Prob) (ao bo : Option Addr) (ca cb : Nat) (hc : chk o = 0) (L : Nat) (hL : L ≤ 24) : ∀ (f : Nat) (l : List Int) (lo : Option Addr) (c : Nat) (w : World), IsProb w o ao bo → Ints w lo l → l ≠ [] → (∀ p ∈ l, 0 ≤ p ∧ p < ((webOf o).n : Int)) → l.length + f = L →
    Calls Try.prog 98 #[probV o ao ca bo cb, .slice lo l.length c, .int .i64 L] w (ListP (extF (webOf o) f l) w) := by
  have HN := Lib.hid (webOf_nI hc)
  have HN24 := Lib.hid (webOf_n hc)
  have HARC : Hid (∀ a b : Nat, arcR o a b = hasS ((webOf o).to a) b) := Lib.hid (arcR_eq hc)
  clear hc
  generalize webOf o = W at *
  intro f
  induction f with
  | zero =>
    intro l lo c w ho hl hne hin hlen
    obtain ⟨c0, hc0⟩ : ∃ c0, extF W 0 l = c0 := ⟨_, rfl⟩
    rw [hc0]
    have hpos : 0 < l.length := List.length_pos_iff.2 hne
    obtain ⟨p, hp, hpn⟩ : ∃ p : Nat, l[l.length - 1] = (p : Int) ∧ p < W.n := by
      have := hin _ (List.getElem_mem (show l.length - 1 < l.length by omega))
      exact ⟨(l[l.length - 1]).toNat, by omega, by omega⟩
    obtain ⟨a, ha, han⟩ : ∃ a : Nat, l[0] = (a : Int) ∧ a < W.n := by
      have := hin _ (List.getElem_mem hpos)
      exact ⟨(l[0]).toNat, by omega, by omega⟩
    have hlast : l.getLastD 0 = (p : Int) := by
      rw [← hp, List.getLastD_eq_getLast?, List.getLast?_eq_getElem?, List.getElem?_eq_getElem (by omega)]; rfl
    have hfst : l.getD 0 0 = (a : Int) := by rw [← ha, List.getD_eq_getElem?_getD, List.getElem?_eq_getElem hpos]; rfl
    have HX : Hid (c0 = if hasS (W.to p) a = true then l else []) := Lib.hid (by
      rw [← hc0]; unfold extF; rw [hlast, hfst, Int.toNat_natCast, Int.toNat_natCast])
    obtain ⟨B, off, rfl, h1⟩ := hl (l.length - 1) (by omega)
    obtain ⟨B', off', e, h2⟩ := hl 0 hpos
    cases e
    rw [hp] at h1
    rw [ha, Nat.add_zero] at h2
    have HO := Lib.hid ho
    have HL := Lib.hid hl
    have H1 := Lib.hid h1
    have H2 := Lib.hid h2
    have HNE := Lib.hid hne
    clear ho hl h1 h2 hin hc0 hlast hfst hp ha hne
    obtain ⟨m, hm⟩ : ∃ m, l.length = m := ⟨_, rfl⟩
    rw [hm] at H1 ⊢
    have HM := Lib.hid hm
    have hm24 : m ≤ 24 := by omega
    have hm0 : 0 < m := by omega
    have hw1 : IntKind.i64.wrap ((m : Int) - 1) = ((m - 1 : Nat) : Int) := by
      rw [show (m : Int) - 1 = ((m - 1 : Nat) : Int) by omega]; exact IntWalk.i64_in _ (by omega)
    have hw2 : wrap64 ((m : Int) - 1) = ((m - 1 : Nat) : Int) := by
      rw [show (m : Int) - 1 = ((m - 1 : Nat) : Int) by omega]; exact IntWalk.wrap64_in _ (by omega)
    have hi1 : ((m - 1 : Nat) : Int) < m := by omega
    obtain rfl : m = L := by omega
    have el : ((m : Int) == (m : Int)) = true := by simp
    clear hlen hm hpos
    have h1 := H1.out
    have hb1 := lt_of_cell h1
    go_enter Try.func98, Try.ntmps98
    go_wp2
    obtain ⟨w0, e0, hk0, hb0, hs0⟩ := alloc_prob w o.N o.arcs o.near ao ca bo cb
    rw [e0]
    clear e0
    have HK0 := Lib.hid hk0
    have HB0 := Lib.hid hb0
    clear hs0 hb0 hk0 h1 hb1 hw1 hw2 hi1
    refine region_class (fun Z => Kept w0 Z) 6 (by kernel_rfl) (by kernel_rfl) (Kept.refl _).drew ?_
    simp only [List.take_succ_cons, List.take_zero, List.drop_succ_cons, List.drop_zero]
    refine wpQuiet_yield (.agg #[.int .i64 o.N, .slice ao o.arcs.length ca, .slice bo o.near.length cb]) (by rfl) (fun Z hZ => ?_) ?_
    · obtain ⟨q0, q1, q2⟩ := HB0.out.kept hZ
      have qb := lt_of_cell q0
      go_simp
    simp only [Act.put, List.setIfInBounds_toArray, List.set_cons_zero, List.set_cons_succ]
    refine wpQuiet_yield (.int .i64 p) (by rfl) (fun Z hZ => ?_) ?_
    · go_simp
    simp only [Act.put, List.setIfInBounds_toArray, List.set_cons_zero, List.set_cons_succ]
    refine wpQuiet_yield (.slice (some ⟨B, off, none⟩) m c) (by rfl) (fun Z hZ => ?_) ?_
    · go_simp
    simp only [Act.put, List.setIfInBounds_toArray, List.set_cons_zero, List.set_cons_succ]
    refine wpQuiet_yield (.pointer (some ⟨B, off, none⟩)) (by rfl) (fun Z hZ => ?_) ?_
    · go_simp
    simp only [Act.put, List.setIfInBounds_toArray, List.set_cons_zero, List.set_cons_succ]
    refine wpQuiet_yield (.int .i64 a) (by rfl) (fun Z hZ => ?_) ?_
    · have hc := hZ.cell (HK0.out.cell H2.out)
      go_simp
    simp only [Act.put, List.setIfInBounds_toArray, List.set_cons_zero, List.set_cons_succ]
    refine wpQuiet_yield (.bool (hasS (W.to p) a)) (by rfl) (fun Z hZ => ?_) ?_
    · go_simp
      have hF := Rarc_any o ao bo ca cb (p : Int) (a : Int) Z (HO.out.kept (HK0.out.trans hZ))
      rw [HARC.out] at hF
      exact hF.mono fun e Z' h => ⟨h.1, hZ.trans h.2⟩
    simp only [Act.put, List.setIfInBounds_toArray, List.set_cons_zero, List.set_cons_succ]
    refine wpQuiet_nil ?_
    intro w4 hk4
    have HK4 := Lib.hid (HK0.out.trans hk4)
    clear hk4
    cases hh : hasS (W.to p) a
    · have HE : Hid (c0 = []) := Lib.hid (by rw [HX.out, hh]; simp)
      clear hh
      go_wp2
      go_ret
      rw [HE.out]
      exact ⟨none, 0, rfl, Ints.nil _ _, fun _ => ⟨rfl, rfl⟩, fun h => absurd rfl h, HK4.out⟩
    · have HE : Hid (c0 = l) := Lib.hid (by rw [HX.out, hh]; simp)
      clear hh
      go_wp2
      go_ret
      rw [HE.out]
      exact ⟨some ⟨B, off, none⟩, c, by rw [HM.out]; rfl, HL.out.kept HK4.out, fun h => absurd h HNE.out, fun _ => ⟨_, rfl⟩, HK4.out⟩
  | succ f ih =>
    intro l lo c w ho hl hne hin hlen
    have HIH := Lib.hid ih
    clear ih
    obtain ⟨c0, hc0⟩ : ∃ c0, extF W (f + 1) l = c0 := ⟨_, rfl⟩
    rw [hc0]
    have hpos : 0 < l.length := List.length_pos_iff.2 hne
    obtain ⟨p, hp, hpn⟩ : ∃ p : Nat, l[l.length - 1] = (p : Int) ∧ p < W.n := by
      have := hin _ (List.getElem_mem (show l.length - 1 < l.length by omega))
      exact ⟨(l[l.length - 1]).toNat, by omega, by omega⟩
    obtain ⟨a, ha, han⟩ : ∃ a : Nat, l[0] = (a : Int) ∧ a < W.n := by
      have := hin _ (List.getElem_mem hpos)
      exact ⟨(l[0]).toNat, by omega, by omega⟩
    have hlast : l.getLastD 0 = (p : Int) := by
      rw [← hp, List.getLastD_eq_getLast?, List.getLast?_eq_getElem?, List.getElem?_eq_getElem (by omega)]; rfl
    have hfst : l.getD 0 0 = (a : Int) := by rw [← ha, List.getD_eq_getElem?_getD, List.getElem?_eq_getElem hpos]; rfl
    have HX : Hid (firstSome (extG W (extF W f) l) (List.range' (a + 1) (W.n - (a + 1))) = c0) := Lib.hid (by
      rw [← hc0]; conv => rhs; unfold extF
      rw [hfst, Int.toNat_natCast])
    have HG : Hid (∀ b : Nat, extG W (extF W f) l b = if hasS (W.to p) b = true ∧ ¬ ((b : Int) ∈ l) then extF W f (l ++ [(b : Int)]) else []) := Lib.hid fun b => by
      unfold extG; rw [hlast, Int.toNat_natCast]
    obtain ⟨B, off, rfl, h1⟩ := hl (l.length - 1) (by omega)
    obtain ⟨B', off', e, h2⟩ := hl 0 hpos
    cases e
    rw [hp] at h1
    rw [ha, Nat.add_zero] at h2
    have HO := Lib.hid ho
    have HL := Lib.hid hl
    have H1 := Lib.hid h1
    have H2 := Lib.hid h2
    have HNE := Lib.hid hne
    have HIN := Lib.hid hin
    have HLEN := Lib.hid hlen
    clear ho hl h1 h2 hin hc0 hlast hfst hp ha hne
    obtain ⟨m, hm⟩ : ∃ m, l.length = m := ⟨_, rfl⟩
    rw [hm] at H1 ⊢
    have HM := Lib.hid hm
    have hm24 : m ≤ 24 := by omega
    have hm0 : 0 < m := by omega
    have hw1 : IntKind.i64.wrap ((m : Int) - 1) = ((m - 1 : Nat) : Int) := by
      rw [show (m : Int) - 1 = ((m - 1 : Nat) : Int) by omega]; exact IntWalk.i64_in _ (by omega)
    have hw2 : wrap64 ((m : Int) - 1) = ((m - 1 : Nat) : Int) := by
      rw [show (m : Int) - 1 = ((m - 1 : Nat) : Int) by omega]; exact IntWalk.wrap64_in _ (by omega)
    have hi1 : ((m - 1 : Nat) : Int) < m := by omega
    have el : ((m : Int) == (L : Int)) = false := by simp; omega
    have ha24 : a < 24 := by have := HN24.out; omega
    have HA := Lib.hid han
    clear hlen hm hpos
    have h1 := H1.out
    have h2 := H2.out
    have hb1 := lt_of_cell h1
    go_enter Try.func98, Try.ntmps98
    go_wp2
    obtain ⟨w0, e0, hk0, hb0, hs0⟩ := alloc_prob w o.N o.arcs o.near ao ca bo cb
    rw [e0]
    clear e0
    have HK0 := Lib.hid hk0
    have HB0 := Lib.hid hb0
    clear hs0 hb0 hk0 h1 h2 hb1 hw1 hw2 hi1 el
    go_loopw [9] (fun i wr => ∃ k : Nat, a + 1 + k ≤ W.n ∧ i = .int .i64 ((a + 1 + k : Nat) : Int) ∧ firstSome (extG W (extF W f) l) (List.range' (a + 1) k) = [] ∧ Kept w0 wr) (fun i _ => W.n - (intOf i).toNat)
    case atStart => exact ⟨0, HA.out, by go_num, rfl, Kept.refl _⟩
    case round =>
      obtain ⟨k, hk, rfl, hno, hkw⟩ := hrel
      have HNO := Lib.hid hno
      have HKW := Lib.hid hkw
      clear hno hkw
      have HSTEP : Hid (extG W (extF W f) l (a + 1 + k) = [] → firstSome (extG W (extF W f) l) (List.range' (a + 1) (k + 1)) = []) := Lib.hid (extF_range HNO.out)
      have HHIT : Hid (a + 1 + k < W.n → extG W (extF W f) l (a + 1 + k) ≠ [] → c0 = extG W (extF W f) l (a + 1 + k)) := Lib.hid fun h g => HX.out.symm.trans (extF_hit HNO.out h g)
      obtain ⟨b, hb⟩ : ∃ b, a + 1 + k = b := ⟨_, rfl⟩
      have HB := Lib.hid hb
      rw [hb] at HSTEP HHIT hk ⊢
      clear hb
      obtain ⟨q0, q1, q2⟩ := HB0.out.kept HKW.out
      have qb := lt_of_cell q0
      by_cases hbn : b < W.n
      · have hbi : decide ((b : Int) < o.N) = true := decide_eq_true (by have := HN.out; omega)
        have hb24 : b < 24 := by have := HN24.out; omega
        have HBN := Lib.hid hbn
        clear hbn hk
        go_wp2_with fail
        clear q0 q1 q2 qb hbi
        have hF := Rarc_any o ao bo ca cb (p : Int) (b : Int) wr (HO.out.kept (HK0.out.trans HKW.out))
        rw [HARC.out] at hF
        refine hF.mono ?_
        clear hF
        rintro e w3 ⟨rfl, hk3⟩
        have HK3 := Lib.hid (HKW.out.trans hk3)
        clear hk3 HKW
        obtain ⟨r, hr⟩ : ∃ r, decide ((b : Int) ∈ l) = r := ⟨_, rfl⟩
        have HR := Lib.hid hr
        go_wp2_with fail
        have hF := Rhas_any l (some ⟨B, off, none⟩) c (b : Int) w3 (HL.out.kept (HK0.out.trans HK3.out)) (by rw [HM.out]; omega)
        rw [hr, HM.out] at hF
        refine hF.mono ?_
        clear hF hr
        rintro e w4 ⟨rfl, rfl⟩
        cases hh : hasS (W.to p) b
        · have HE := Lib.hid (HSTEP.out (by rw [HG.out, hh, if_neg (by simp)]))
          clear hh
          go_wp2
          go_roundw
          case measure => have := HBN.out; simp [intOf] <;> omega
          case rel => exact ⟨k + 1, by have := HB.out; have := HBN.out; omega, by have := HB.out; go_num, HE.out, HK3.out⟩
        · have HH := Lib.hid hh
          clear hh
          cases r
          · have HG1 : Hid (extG W (extF W f) l b = extF W f (l ++ [(b : Int)])) := Lib.hid (by rw [HG.out, if_pos ⟨HH.out, of_decide_eq_false HR.out⟩])
            have hz1 : l.length ≤ 24 := by rw [HM.out]; exact hm24
            obtain ⟨q0, q1, q2⟩ := HB0.out.kept HK3.out
            have qb := lt_of_cell q0
            go_wp2_with (first
              | (at_builtin; refine append_copy (w3.alloc (.cells #[] 3)) rfl _ _ rfl w3.heap.size (.slice (some ⟨w3.heap.size, 0, none⟩) 0 0) rfl (OwnEI w3 (Nat.le_refl _)) l (some ⟨B, off, none⟩) c (by rw [HM.out]; rfl) ((HL.out.kept (HK0.out.trans HK3.out)).kept ((Kept.refl _).alloc _)) (fun h => by cases h) (by omega) (by simp) ?_; intro v5 w5 hown5 hg5; have HO5 := Lib.hid hown5; have HK5 : Hid (Kept w3 w5) := Lib.hid (((Kept.refl w3).alloc _).grown hg5 (fun r e => by cases e; exact Nat.le_refl _)); have HB5 := Lib.hid (HB0.out.kept (HK3.out.trans HK5.out)); clear hown5 hg5 q0 q1 q2 qb; obtain ⟨q0, q1, q2⟩ := HB5.out; have qb := lt_of_cell q0)
              | (at_builtin; refine append_int (w5.alloc (.cells #[.int .i64 (b : Int)] 3)) rfl _ _ rfl w3.heap.size v5 l rfl (HO5.out.kept ((Kept.refl _).alloc _)) w5.heap.size 1 (b : Int) rfl (by simp [go_sem]) (by omega) (by have := HK5.out.size; simp; omega) ?_; intro g6 c6 w6 hown6 hg6; have HO6 := Lib.hid hown6; have HK6 := Lib.hid ((HK5.out.alloc _).grown hg6 (fun r e => (HO5.out.lt r e).1)); have HB6 := Lib.hid (HB0.out.kept (HK3.out.trans HK6.out)); clear hown6 hg6 q0 q1 q2 qb; obtain ⟨q0, q1, q2⟩ := HB6.out; have qb := lt_of_cell q0)
              | fail)
            clear q0 q1 q2 qb
            have hI6 : Ints w6 (some ⟨g6, 0, none⟩) (l ++ [(b : Int)]) := by
              obtain ⟨ao', c', e, -, hi'⟩ := HO6.out.slice
              simp only [Value.slice.injEq] at e
              rw [e.1]
              exact hi'
            have HK36 := Lib.hid (HK3.out.trans HK6.out)
            have hF := HIH.out (l ++ [(b : Int)]) (some ⟨g6, 0, none⟩) c6 w6 (HO.out.kept (HK0.out.trans HK36.out)) hI6 (by simp) (fun p hp => by
              rcases List.mem_append.1 hp with h | h
              · exact HIN.out p h
              · simp at h; subst h; have := HBN.out; omega) (by have := HLEN.out; simp; omega)
            rw [List.length_append, List.length_singleton] at hF
            refine hF.mono ?_
            clear hF hI6
            rintro e w7 ⟨so, sc, rfl, hi7, hn7, hs7, hk7⟩
            have HK7 := Lib.hid (HK36.out.trans hk7)
            have HI7 := Lib.hid hi7
            clear hi7 hk7
            rw [← HG1.out] at hn7 hs7 HI7 ⊢
            by_cases hcc : extG W (extF W f) l b = []
            · obtain ⟨rfl, rfl⟩ := hn7 hcc
              have HE := Lib.hid (HSTEP.out hcc)
              rw [hcc]
              clear hcc hn7 hs7
              simp only [List.length_nil]
              go_wp2
              go_roundw
              case measure => have := HBN.out; simp [intOf] <;> omega
              case rel => exact ⟨k + 1, by have := HB.out; have := HBN.out; omega, by have := HB.out; go_num, HE.out, HK7.out⟩
            · obtain ⟨ad, rfl⟩ := hs7 hcc
              have HE := Lib.hid (HHIT.out HBN.out hcc)
              have HCC := Lib.hid hcc
              clear hcc hn7 hs7
              rw [← HE.out] at HI7 HCC ⊢
              clear HG1 HSTEP HHIT
              go_wp2
              go_ret
              exact ⟨some ad, sc, rfl, HI7.out, fun h => absurd h HCC.out, fun _ => ⟨_, rfl⟩, HK0.out.trans HK7.out⟩
          · have HE := Lib.hid (HSTEP.out (by rw [HG.out, if_neg (fun h => h.2 (of_decide_eq_true HR.out))]))
            go_wp2
            go_roundw
            case measure => have := HBN.out; simp [intOf] <;> omega
            case rel => exact ⟨k + 1, by have := HB.out; have := HBN.out; omega, by have := HB.out; go_num, HE.out, HK3.out⟩
      · have hbi : decide ((b : Int) < o.N) = false := decide_eq_false (by have := HN.out; omega)
        have HE : Hid (c0 = []) := Lib.hid (by
          rw [← HX.out, show W.n - (a + 1) = k by have := HB.out; omega]
          exact HNO.out)
        clear hbn hk
        go_wp2
        go_ret
        rw [HE.out]
        exact ⟨none, 0, rfl, Ints.nil _ _, fun _ => ⟨rfl, rfl⟩, fun h => absurd rfl h, HK0.out.trans HKW.out⟩
end Go.Proofs.Yteljjkghjbofnaa
