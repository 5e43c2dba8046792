/- Plain law of OrderFrees, 1: matched is a greatest matching. -/
import Derived.Test.YteljjkghjbofnaaMf
set_option maxRecDepth 100000
namespace Go.Proofs.Yteljjkghjbofnaa
open Go Go.Proofs Go.RowKit

def nx (st : MS) (p : Nat) : Int := st.next.getD p 0
def bf (st : MS) (q : Nat) : Int := st.before.getD q 0
theorem getD_setI {l : List Int} {i j : Nat} {x : Int} (hi : i < l.length) : (l.set i x).getD j 0 = if j = i then x else l.getD j 0 := by
  rw [List.getD_eq_getElem?_getD, List.getD_eq_getElem?_getD, List.getElem?_set]
  by_cases h : i = j
  · subst h; simp [hi]
  · rw [if_neg h, if_neg (fun e => h e.symm)]
theorem nx_pair {n : Nat} {st : MS} (h : st.Ok n) {p q p' : Nat} (hp : p < 24) : nx (st.pair p q) p' = if p' = p then (q : Int) else nx st p' :=
  getD_setI (by rw [h.next.1]; exact hp)
theorem bf_pair {n : Nat} {st : MS} (h : st.Ok n) {p q q' : Nat} (hq : q < 24) : bf (st.pair p q) q' = if q' = q then (p : Int) else bf st q' :=
  getD_setI (by rw [h.before.1]; exact hq)
theorem nx_bound {n : Nat} {st : MS} (h : st.Ok n) {p : Nat} (hp : p < 24) : -1 ≤ nx st p ∧ nx st p < n := by
  have hl : p < st.next.length := by rw [h.next.1]; exact hp
  unfold nx
  rw [List.getD_eq_getElem?_getD, List.getElem?_eq_getElem hl]
  exact h.next.2 _ (List.getElem_mem hl)
theorem bf_bound {n : Nat} {st : MS} (h : st.Ok n) {q : Nat} (hq : q < 24) : -1 ≤ bf st q ∧ bf st q < n := h.getB hq

section
variable {W : Web} {sm : S}

/-- The two lists of a search fit. -/
structure FitM (W : Web) (sm : S) (st : MS) : Prop where
  ok : st.Ok W.n
  fit : ∀ p q : Nat, p < W.n → q < W.n → (nx st p = (q : Int) ↔ bf st q = (p : Int))
  ed : ∀ p q : Nat, p < W.n → q < W.n → nx st p = (q : Int) → hasS sm p = true ∧ hasS sm q = true ∧ hasS (W.reach p) q = true
theorem FitM.congr {st st' : MS} (h : FitM W sm st) (e1 : st'.next = st.next) (e2 : st'.before = st.before) : FitM W sm st' := by
  refine ⟨⟨by rw [e1]; exact h.ok.next, by rw [e2]; exact h.ok.before⟩, ?_, ?_⟩
  · unfold nx bf; rw [e1, e2]; exact h.fit
  · unfold nx; rw [e1]; exact h.ed
theorem FitM.see {st : MS} (h : FitM W sm st) (q : Nat) : FitM W sm (st.see q) := h.congr rfl rfl

/-- What a search that succeeds has made. -/
structure Suc (W : Web) (sm : S) (p : Nat) (st st' : MS) : Prop where
  ok : st'.Ok W.n
  fit : ∀ p' q : Nat, p' < W.n → q < W.n → (q : Int) ≠ nx st p → (nx st' p' = (q : Int) ↔ bf st' q = (p' : Int))
  none : ∀ p' : Nat, p' < W.n → 0 ≤ nx st p → nx st' p' ≠ nx st p
  ed : ∀ p' q : Nat, p' < W.n → q < W.n → nx st' p' = (q : Int) → hasS sm p' = true ∧ hasS sm q = true ∧ hasS (W.reach p') q = true
  me : 0 ≤ nx st' p
  oth : ∀ p' : Nat, p' < W.n → p' ≠ p → (0 ≤ nx st' p' ↔ 0 ≤ nx st p')
  keep : ∀ p' : Nat, p' < W.n → p' ≠ p → (0 ≤ nx st p' → hasS st.seen (nx st p').toNat = true) → nx st' p' = nx st p'
theorem Suc.from {p : Nat} {st st1 st' : MS} (h : Suc W sm p st1 st') (e : st1.next = st.next) (hs : ∀ x, hasS st.seen x = true → hasS st1.seen x = true) : Suc W sm p st st' := by
  have e1 : nx st1 = nx st := by unfold nx; rw [e]
  obtain ⟨h1, h2, h3, h4, h5, h6, h7⟩ := h
  rw [e1] at h2 h3 h6 h7
  exact ⟨h1, h2, h3, h4, h5, h6, fun p' a b c => h7 p' a b (fun d => hs _ (c d))⟩

theorem wants_parts {p q : Nat} {st : MS} (h : wants W sm p st q = true) : hasS sm q = true ∧ hasS st.seen q = false ∧ hasS (W.reach p) q = true := by
  unfold wants at h
  simp only [Bool.and_eq_true, Bool.not_eq_true'] at h
  exact ⟨h.1.1, h.1.2, h.2⟩
theorem has_see {st : MS} {q x : Nat} (hq : q < 32) : hasS (st.see q).seen x = (hasS st.seen x || decide (x = q)) := by
  show hasS (st.seen ||| oneS q) x = _
  rw [hasS_or, hasS_one q x hq]

theorem findGo_spec (hn : W.n ≤ 24) {f : Nat}
    (hsub : ∀ (p : Nat) (st : MS), p < W.n → hasS sm p = true → FitM W sm st → (0 ≤ nx st p → hasS st.seen (nx st p).toNat = true) →
      ((findF W sm f p st).1 = true → Suc W sm p st (findF W sm f p st).2) ∧ ((findF W sm f p st).1 = false → (findF W sm f p st).2.next = st.next ∧ (findF W sm f p st).2.before = st.before))
    {p : Nat} (hp : p < W.n) (hsp : hasS sm p = true) : ∀ (qs : List Nat) (st : MS), (∀ q ∈ qs, q < W.n) → FitM W sm st → (0 ≤ nx st p → hasS st.seen (nx st p).toNat = true) →
      ((findGo W sm (findF W sm f) p qs st).1 = true → Suc W sm p st (findGo W sm (findF W sm f) p qs st).2) ∧ ((findGo W sm (findF W sm f) p qs st).1 = false → (findGo W sm (findF W sm f) p qs st).2.next = st.next ∧ (findGo W sm (findF W sm f) p qs st).2.before = st.before)
  | [], st, _, _, _ => ⟨fun h => by simp [findGo] at h, fun _ => ⟨rfl, rfl⟩⟩
  | q :: qs, st, hq, hf, hx => by
    have hqn := hq q (List.mem_cons_self ..)
    have hq' := fun r hr => hq r (List.mem_cons_of_mem _ hr)
    unfold findGo
    by_cases hw : wants W sm p st q = true
    · rw [if_pos hw]
      obtain ⟨w1, w2, w3⟩ := wants_parts hw
      have hqx : (q : Int) ≠ nx st p := fun e => by
        have h := hx (by omega)
        rw [← e] at h
        simp only [Int.toNat_natCast] at h
        rw [w2] at h
        cases h
      have hxb := nx_bound hf.ok (p := p) (by omega)
      by_cases hb : st.before.getD q 0 < 0
      · rw [if_pos hb]
        refine ⟨fun _ => ?_, fun h => by cases h⟩
        have hb' : bf st q < 0 := hb
        have hok := hf.ok.see q
        have N : ∀ p', nx ((st.see q).pair p q) p' = if p' = p then (q : Int) else nx st p' := fun p' => nx_pair hok (by omega)
        have B : ∀ q', bf ((st.see q).pair p q) q' = if q' = q then (p : Int) else bf st q' := fun q' => bf_pair hok (by omega)
        refine ⟨hok.pair hp hqn, fun p' q' hp' hq2 hne => ?_, fun p' hp' h0 => ?_, fun p' q' hp' hq2 he => ?_, ?_, fun p' hp' hne => ?_, fun p' hp' hne _ => ?_⟩
        · rw [N, B]
          have hfit := hf.fit p' q' hp' hq2
          by_cases e1 : p' = p
          · by_cases e2 : q' = q
            · rw [if_pos e1, if_pos e2, e1, e2]; simp
            · rw [if_pos e1, if_neg e2]
              constructor
              · intro h; omega
              · intro h
                rw [e1] at hfit h
                exact absurd (hfit.2 h).symm hne
          · by_cases e2 : q' = q
            · rw [if_neg e1, if_pos e2]
              constructor
              · intro h
                have := hfit.1 h
                rw [e2] at this
                omega
              · intro h; omega
            · rw [if_neg e1, if_neg e2]; exact hfit
        · rw [N]
          by_cases e1 : p' = p
          · rw [if_pos e1]; exact hqx
          · rw [if_neg e1]
            intro h
            have a1 := (hf.fit p (nx st p).toNat hp (by omega)).1 (by omega)
            have a2 := (hf.fit p' (nx st p).toNat hp' (by omega)).1 (by omega)
            omega
        · rw [N] at he
          by_cases e1 : p' = p
          · rw [if_pos e1] at he
            have : q' = q := by omega
            rw [e1, this]
            exact ⟨hsp, w1, w3⟩
          · rw [if_neg e1] at he
            exact hf.ed p' q' hp' hq2 he
        · rw [N, if_pos rfl]; omega
        · rw [N, if_neg hne]
        · rw [N, if_neg hne]
      · rw [if_neg hb]
        have hb' : 0 ≤ bf st q := by unfold bf; omega
        have hbb := bf_bound hf.ok (q := q) (by omega)
        have hr : (st.before.getD q 0).toNat = (bf st q).toNat := rfl
        generalize hrr : (st.before.getD q 0).toNat = r at *
        have hrn : r < W.n := by omega
        have hbr : bf st q = (r : Int) := by omega
        have hnr : nx st r = (q : Int) := (hf.fit r q hrn hqn).2 hbr
        obtain ⟨s1, s2, s3⟩ := hf.ed r q hrn hqn hnr
        have hrp : r ≠ p := fun e => hqx (by rw [← e]; exact hnr.symm)
        obtain ⟨k1, k2⟩ := hsub r (st.see q) hrn s1 (hf.see q) (fun _ => by
          show hasS (st.see q).seen (nx st r).toNat = true
          rw [hnr, has_see (by omega)]
          simp)
        by_cases hs : (findF W sm f r (st.see q)).1 = true
        · rw [if_pos hs]
          refine ⟨fun _ => ?_, fun h => by cases h⟩
          have hS := k1 hs
          generalize (findF W sm f r (st.see q)).2 = st2 at *
          have e0 : nx (st.see q) = nx st := rfl
          obtain ⟨o1, o2, o3, o4, o5, o6, o7⟩ := hS
          rw [e0] at o2 o3 o6 o7
          rw [hnr] at o2 o3
          have hpx : nx st2 p = nx st p := o7 p hp (Ne.symm hrp) (fun h0 => by
            rw [has_see (by omega), hx h0]
            rfl)
          have N : ∀ p', nx (st2.pair p q) p' = if p' = p then (q : Int) else nx st2 p' := fun p' => nx_pair o1 (by omega)
          have B : ∀ q', bf (st2.pair p q) q' = if q' = q then (p : Int) else bf st2 q' := fun q' => bf_pair o1 (by omega)
          refine ⟨o1.pair hp hqn, fun p' q' hp' hq2 hne => ?_, fun p' hp' h0 => ?_, fun p' q' hp' hq2 he => ?_, ?_, fun p' hp' hne => ?_, fun p' hp' hne hk => ?_⟩
          · rw [N, B]
            by_cases e1 : p' = p
            · by_cases e2 : q' = q
              · rw [if_pos e1, if_pos e2, e1, e2]; simp
              · rw [if_pos e1, if_neg e2]
                have hfit := o2 p' q' hp' hq2 (by omega)
                constructor
                · intro h; omega
                · intro h
                  rw [e1] at hfit h
                  have := hfit.2 h
                  rw [hpx] at this
                  exact absurd this.symm hne
            · by_cases e2 : q' = q
              · rw [if_neg e1, if_pos e2]
                constructor
                · intro h
                  rw [e2] at h
                  exact absurd h (o3 p' hp' (by omega))
                · intro h; omega
              · rw [if_neg e1, if_neg e2]; exact o2 p' q' hp' hq2 (by omega)
          · rw [N]
            by_cases e1 : p' = p
            · rw [if_pos e1]; exact hqx
            · rw [if_neg e1]
              intro h
              have hne : (((nx st p).toNat : Nat) : Int) ≠ (q : Int) := by omega
              have a1 := (o2 p (nx st p).toNat hp (by omega) hne).1 (by omega)
              have a2 := (o2 p' (nx st p).toNat hp' (by omega) hne).1 (by omega)
              omega
          · rw [N] at he
            by_cases e1 : p' = p
            · rw [if_pos e1] at he
              have : q' = q := by omega
              rw [e1, this]
              exact ⟨hsp, w1, w3⟩
            · rw [if_neg e1] at he
              exact o4 p' q' hp' hq2 he
          · rw [N, if_pos rfl]; omega
          · rw [N, if_neg hne]
            by_cases e1 : p' = r
            · rw [e1, hnr]
              exact ⟨fun _ => by omega, fun _ => o5⟩
            · exact o6 p' hp' e1
          · rw [N, if_neg hne]
            have e1 : p' ≠ r := fun e => by
              rw [e, hnr] at hk
              have := hk (by omega)
              simp only [Int.toNat_natCast] at this
              rw [w2] at this
              cases this
            exact o7 p' hp' e1 (fun h0 => by rw [has_see (by omega), hk h0]; rfl)
        · rw [if_neg hs]
          have hs' : (findF W sm f r (st.see q)).1 = false := by simpa using hs
          obtain ⟨e1, e2⟩ := k2 hs'
          have hseen : ∀ x, hasS st.seen x = true → hasS (findF W sm f r (st.see q)).2.seen x = true := fun x h => findF_seen _ _ _ (by rw [has_see (by omega), h]; rfl)
          generalize (findF W sm f r (st.see q)).2 = st2 at *
          have e1' : st2.next = st.next := e1
          have e2' : st2.before = st.before := e2
          have en : nx st2 = nx st := by unfold nx; rw [e1']
          obtain ⟨m1, m2⟩ := findGo_spec hn hsub hp hsp qs st2 hq' (hf.congr e1' e2') (fun h0 => by rw [en] at h0 ⊢; exact hseen _ (hx h0))
          exact ⟨fun h => (m1 h).from e1' hseen, fun h => ⟨(m2 h).1.trans e1', (m2 h).2.trans e2'⟩⟩
    · rw [if_neg hw]
      exact findGo_spec hn hsub hp hsp qs st hq' hf hx
theorem findF_spec (hn : W.n ≤ 24) : ∀ (f p : Nat) (st : MS), p < W.n → hasS sm p = true → FitM W sm st → (0 ≤ nx st p → hasS st.seen (nx st p).toNat = true) →
      ((findF W sm f p st).1 = true → Suc W sm p st (findF W sm f p st).2) ∧ ((findF W sm f p st).1 = false → (findF W sm f p st).2.next = st.next ∧ (findF W sm f p st).2.before = st.before)
  | 0, _, _, _, _, _, _ => ⟨fun h => by simp [findF] at h, fun _ => ⟨rfl, rfl⟩⟩
  | f + 1, p, st, hp, hsp, hf, hx => findGo_spec hn (findF_spec hn f) hp hsp _ st (fun _ hq => List.mem_range.1 hq) hf hx

/-- Where a search has failed, what was seen is closed. -/
theorem findGo_fail (hn : W.n ≤ 24) {f : Nat}
    (hsub : ∀ (p : Nat) (st : MS), p < W.n → hasS sm p = true → FitM W sm st → (0 ≤ nx st p → hasS st.seen (nx st p).toNat = true) → unseen W.n st.seen < f → (findF W sm f p st).1 = false →
      (∀ q, q < W.n → hasS sm q = true → hasS (W.reach p) q = true → hasS (findF W sm f p st).2.seen q = true) ∧
      ∀ q, hasS (findF W sm f p st).2.seen q = true → hasS st.seen q = true ∨ (q < W.n ∧ hasS sm q = true ∧ 0 ≤ bf st q ∧ ∀ q2, q2 < W.n → hasS sm q2 = true → hasS (W.reach (bf st q).toNat) q2 = true → hasS (findF W sm f p st).2.seen q2 = true))
    {p : Nat} (hp : p < W.n) (hsp : hasS sm p = true) : ∀ (qs : List Nat) (st : MS), (∀ q ∈ qs, q < W.n) → FitM W sm st → (0 ≤ nx st p → hasS st.seen (nx st p).toNat = true) → unseen W.n st.seen < f + 1 → (findGo W sm (findF W sm f) p qs st).1 = false →
      (∀ q ∈ qs, hasS sm q = true → hasS (W.reach p) q = true → hasS (findGo W sm (findF W sm f) p qs st).2.seen q = true) ∧
      ∀ q, hasS (findGo W sm (findF W sm f) p qs st).2.seen q = true → hasS st.seen q = true ∨ (q < W.n ∧ hasS sm q = true ∧ 0 ≤ bf st q ∧ ∀ q2, q2 < W.n → hasS sm q2 = true → hasS (W.reach (bf st q).toNat) q2 = true → hasS (findGo W sm (findF W sm f) p qs st).2.seen q2 = true)
  | [], st, _, _, _, _, _ => ⟨fun q hq => (by cases hq), fun q h => .inl h⟩
  | q :: qs, st, hq, hf, hx, hu, hfail => by
    have hqn := hq q (List.mem_cons_self ..)
    have hq' := fun r hr => hq r (List.mem_cons_of_mem _ hr)
    unfold findGo at hfail ⊢
    by_cases hw : wants W sm p st q = true
    · rw [if_pos hw] at hfail ⊢
      obtain ⟨w1, w2, w3⟩ := wants_parts hw
      have hqx : (q : Int) ≠ nx st p := fun e => by
        have h := hx (by omega)
        rw [← e] at h
        simp only [Int.toNat_natCast] at h
        rw [w2] at h
        cases h
      by_cases hb : st.before.getD q 0 < 0
      · rw [if_pos hb] at hfail
        cases hfail
      · rw [if_neg hb] at hfail ⊢
        have hb' : 0 ≤ bf st q := by unfold bf; omega
        have hbb := bf_bound hf.ok (q := q) (by omega)
        have hr : (st.before.getD q 0).toNat = (bf st q).toNat := rfl
        generalize hrr : (st.before.getD q 0).toNat = r at *
        have hrn : r < W.n := by omega
        have hbr : bf st q = (r : Int) := by omega
        have hnr : nx st r = (q : Int) := (hf.fit r q hrn hqn).2 hbr
        obtain ⟨s1, s2, s3⟩ := hf.ed r q hrn hqn hnr
        have hpre : 0 ≤ nx (st.see q) r → hasS (st.see q).seen (nx (st.see q) r).toNat = true := fun _ => by
          show hasS (st.see q).seen (nx st r).toNat = true
          rw [hnr, has_see (by omega)]
          simp
        by_cases hs : (findF W sm f r (st.see q)).1 = true
        · rw [if_pos hs] at hfail
          cases hfail
        · rw [if_neg hs] at hfail ⊢
          have hs' : (findF W sm f r (st.see q)).1 = false := by simpa using hs
          obtain ⟨e1, e2⟩ := (findF_spec hn f r (st.see q) hrn s1 (hf.see q) hpre).2 hs'
          have hul : unseen W.n (st.see q).seen < f := by
            have := unseen_lt (n := W.n) (q := q) (s := st.seen) (by omega) hqn w2
            have e : (st.see q).seen = st.seen ||| oneS q := rfl
            rw [e]
            omega
          obtain ⟨c1, c2⟩ := hsub r (st.see q) hrn s1 (hf.see q) hpre hul hs'
          have hseen : ∀ x, hasS (st.see q).seen x = true → hasS (findF W sm f r (st.see q)).2.seen x = true := fun x h => findF_seen _ _ _ h
          generalize (findF W sm f r (st.see q)).2 = st2 at *
          have e1' : st2.next = st.next := e1
          have e2' : st2.before = st.before := e2
          have en : nx st2 = nx st := by unfold nx; rw [e1']
          have eb : bf st2 = bf st := by unfold bf; rw [e2']
          have hseen2 : ∀ x, hasS st.seen x = true → hasS st2.seen x = true := fun x h => hseen x (by rw [has_see (by omega), h]; rfl)
          have hu2 : unseen W.n st2.seen < f + 1 := by
            have := unseen_mono (n := W.n) hseen2
            omega
          obtain ⟨d1, d2⟩ := findGo_fail hn hsub hp hsp qs st2 hq' (hf.congr e1' e2') (fun h0 => by rw [en] at h0 ⊢; exact hseen2 _ (hx h0)) hu2 hfail
          have hmono : ∀ x, hasS st2.seen x = true → hasS (findGo W sm (findF W sm f) p qs st2).2.seen x = true := fun x h => findGo_seen (fun p st h => findF_seen f p st h) _ _ h
          have ebs : bf (st.see q) = bf st := rfl
          rw [ebs] at c2
          rw [eb] at d2
          refine ⟨fun q2 hq2 h1 h2 => ?_, fun q2 h => ?_⟩
          · rcases List.mem_cons.1 hq2 with rfl | hq2
            · exact hmono _ (hseen _ (by rw [has_see (by omega)]; simp))
            · exact d1 q2 hq2 h1 h2
          · rcases d2 q2 h with h | h
            · rcases c2 q2 h with h | ⟨h1, h2, h3, h4⟩
              · rw [has_see (by omega)] at h
                simp only [Bool.or_eq_true, decide_eq_true_eq] at h
                rcases h with h | h
                · exact .inl h
                · refine .inr ⟨by omega, by rw [h]; exact w1, by rw [h]; exact hb', fun q3 h1 h2 h3 => hmono _ (c1 q3 h1 h2 ?_)⟩
                  rw [h] at h3
                  rw [hr]
                  exact h3
              · exact .inr ⟨h1, h2, h3, fun q3 a b c => hmono _ (h4 q3 a b c)⟩
            · exact .inr h
    · rw [if_neg hw] at hfail ⊢
      obtain ⟨d1, d2⟩ := findGo_fail hn hsub hp hsp qs st hq' hf hx hu hfail
      refine ⟨fun q2 hq2 h1 h2 => ?_, d2⟩
      rcases List.mem_cons.1 hq2 with rfl | hq2
      · have hsn : hasS st.seen q2 = true := by
          unfold wants at hw
          rw [h1, h2] at hw
          simpa using hw
        exact findGo_seen (fun p st h => findF_seen f p st h) _ _ hsn
      · exact d1 q2 hq2 h1 h2
theorem findF_fail (hn : W.n ≤ 24) : ∀ (f p : Nat) (st : MS), p < W.n → hasS sm p = true → FitM W sm st → (0 ≤ nx st p → hasS st.seen (nx st p).toNat = true) → unseen W.n st.seen < f → (findF W sm f p st).1 = false →
      (∀ q, q < W.n → hasS sm q = true → hasS (W.reach p) q = true → hasS (findF W sm f p st).2.seen q = true) ∧
      ∀ q, hasS (findF W sm f p st).2.seen q = true → hasS st.seen q = true ∨ (q < W.n ∧ hasS sm q = true ∧ 0 ≤ bf st q ∧ ∀ q2, q2 < W.n → hasS sm q2 = true → hasS (W.reach (bf st q).toNat) q2 = true → hasS (findF W sm f p st).2.seen q2 = true)
  | 0, _, _, _, _, _, _, hu, _ => by omega
  | f + 1, p, st, hp, hsp, hf, hx, hu, hfail => by
    obtain ⟨h1, h2⟩ := findGo_fail hn (findF_fail hn f) hp hsp (List.range W.n) st (fun _ hq => List.mem_range.1 hq) hf hx hu hfail
    exact ⟨fun q hq a b => h1 q (List.mem_range.2 hq) a b, h2⟩

/-- No way leads out of L but into R, and R is matched with L. -/
structure Bl (W : Web) (sm : S) (st : MS) (L R : Nat → Bool) : Prop where
  cl : ∀ p, L p = true → p < W.n ∧ hasS sm p = true ∧ ∀ q, q < W.n → hasS sm q = true → hasS (W.reach p) q = true → R q = true
  mt : ∀ q, R q = true → q < W.n ∧ hasS sm q = true ∧ ∃ r : Nat, bf st q = (r : Int) ∧ L r = true
theorem Bl.congr {st st' : MS} {L R : Nat → Bool} (h : Bl W sm st L R) (e : ∀ q, R q = true → bf st' q = bf st q) : Bl W sm st' L R :=
  ⟨h.cl, fun q hq => by obtain ⟨h1, h2, r, h3, h4⟩ := h.mt q hq; exact ⟨h1, h2, r, (e q hq).trans h3, h4⟩⟩

theorem findGo_bl (hn : W.n ≤ 24) {L R : Nat → Bool} {f : Nat}
    (hsub : ∀ (p : Nat) (st : MS), p < W.n → st.Ok W.n → Bl W sm st L R → ((findF W sm f p st).1 = true → L p = false) ∧ ∀ q, R q = true → bf (findF W sm f p st).2 q = bf st q)
    {p : Nat} (hp : p < W.n) : ∀ (qs : List Nat) (st : MS), (∀ q ∈ qs, q < W.n) → st.Ok W.n → Bl W sm st L R → ((findGo W sm (findF W sm f) p qs st).1 = true → L p = false) ∧ ∀ q, R q = true → bf (findGo W sm (findF W sm f) p qs st).2 q = bf st q
  | [], st, _, _, _ => ⟨fun h => by simp [findGo] at h, fun q _ => rfl⟩
  | q :: qs, st, hq, hok, hb => by
    have hqn := hq q (List.mem_cons_self ..)
    have hq' := fun r hr => hq r (List.mem_cons_of_mem _ hr)
    unfold findGo
    by_cases hw : wants W sm p st q = true
    · rw [if_pos hw]
      obtain ⟨w1, w2, w3⟩ := wants_parts hw
      have hLp : R q = false → L p = false := fun h => by
        cases hl : L p
        · rfl
        · rw [(hb.cl p hl).2.2 q hqn w1 w3] at h; cases h
      by_cases hbq : st.before.getD q 0 < 0
      · rw [if_pos hbq]
        have hRq : R q = false := by
          cases h : R q
          · rfl
          · obtain ⟨-, -, r, h3, -⟩ := hb.mt q h
            have : bf st q < 0 := hbq
            omega
        refine ⟨fun _ => hLp hRq, fun q' hq2 => ?_⟩
        rw [bf_pair (hok.see q) (by omega), if_neg (fun e => by rw [e, hRq] at hq2; cases hq2)]
        rfl
      · rw [if_neg hbq]
        have hbb := bf_bound hok (q := q) (by omega)
        have hr : (st.before.getD q 0).toNat = (bf st q).toNat := rfl
        have hb' : 0 ≤ bf st q := by unfold bf; omega
        generalize hrr : (st.before.getD q 0).toNat = r at *
        have hok2 := findF_ok hn f r (st.see q) (by omega) (hok.see q) (some := sm)
        obtain ⟨k1, k2⟩ := hsub r (st.see q) (by omega) (hok.see q) (hb.congr fun _ _ => rfl)
        have k2' : ∀ q', R q' = true → bf (findF W sm f r (st.see q)).2 q' = bf st q' := k2
        by_cases hs : (findF W sm f r (st.see q)).1 = true
        · rw [if_pos hs]
          have hRq : R q = false := by
            cases h : R q
            · rfl
            · obtain ⟨-, -, r', h3, h4⟩ := hb.mt q h
              have : r' = r := by omega
              rw [this, k1 hs] at h4
              cases h4
          refine ⟨fun _ => hLp hRq, fun q' hq2 => ?_⟩
          rw [bf_pair hok2 (by omega), if_neg (fun e => by rw [e, hRq] at hq2; cases hq2)]
          exact k2' q' hq2
        · rw [if_neg hs]
          obtain ⟨m1, m2⟩ := findGo_bl hn hsub hp qs _ hq' hok2 (hb.congr k2')
          exact ⟨m1, fun q' hq2 => (m2 q' hq2).trans (k2' q' hq2)⟩
    · rw [if_neg hw]
      exact findGo_bl hn hsub hp qs st hq' hok hb
theorem findF_bl (hn : W.n ≤ 24) {L R : Nat → Bool} : ∀ (f p : Nat) (st : MS), p < W.n → st.Ok W.n → Bl W sm st L R → ((findF W sm f p st).1 = true → L p = false) ∧ ∀ q, R q = true → bf (findF W sm f p st).2 q = bf st q
  | 0, _, _, _, _, _ => ⟨fun h => by simp [findF] at h, fun q _ => rfl⟩
  | f + 1, p, st, hp, hok, hb => findGo_bl hn (findF_bl hn f) hp _ st (fun _ hq => List.mem_range.1 hq) hok hb

/-- What the first k searches have made. -/
structure MInv (W : Web) (sm : S) (k : Nat) (st : MS) : Prop where
  fit : FitM W sm st
  rest : ∀ p, k ≤ p → p < W.n → nx st p < 0
  bl : ∃ L R, Bl W sm st L R ∧ ∀ p, p < k → hasS sm p = true → 0 ≤ nx st p ∨ L p = true
theorem unseen_le (n : Nat) (s : S) : unseen n s ≤ n := by
  unfold unseen
  have := List.length_filter_le (fun p => !hasS s p) (List.range n)
  simpa using this
theorem matchSt_inv (hn : W.n ≤ 24) : ∀ k, k ≤ W.n → MInv W sm k (matchSt W sm k)
  | 0, _ => by
    have hok := matchSt_ok (W := W) (some := sm) hn 0 (Nat.zero_le _)
    have N : ∀ p, p < 24 → nx (matchSt W sm 0) p = -1 := fun p hp => by
      show (List.replicate 24 (-1 : Int)).getD p 0 = -1
      rw [List.getD_eq_getElem?_getD, List.getElem?_eq_getElem (by rw [List.length_replicate]; exact hp)]
      exact List.getElem_replicate ..
    have B : ∀ p, p < 24 → bf (matchSt W sm 0) p = -1 := fun p hp => by
      show (List.replicate 24 (-1 : Int)).getD p 0 = -1
      rw [List.getD_eq_getElem?_getD, List.getElem?_eq_getElem (by rw [List.length_replicate]; exact hp)]
      exact List.getElem_replicate ..
    refine ⟨⟨hok, fun p q hp hq => ?_, fun p q hp hq h => ?_⟩, fun p _ hp => ?_, fun _ => false, fun _ => false, ⟨fun p h => (by cases h), fun q h => (by cases h)⟩, fun p h => by omega⟩
    · rw [N p (by omega), B q (by omega)]; omega
    · rw [N p (by omega)] at h; omega
    · rw [N p (by omega)]; omega
  | k + 1, hk => by
    obtain ⟨hf, hr, L, R, hb, hd⟩ := matchSt_inv hn k (by omega)
    rw [matchSt_succ]
    unfold matchStep
    generalize matchSt W sm k = st at *
    by_cases hs : hasS sm k = true
    · rw [if_pos hs]
      have hf0 : FitM W sm ({ st with seen := 0#32 } : MS) := hf.congr rfl rfl
      have hx0 : nx ({ st with seen := 0#32 } : MS) k < 0 := hr k (Nat.le_refl _) (by omega)
      have hpre : 0 ≤ nx ({ st with seen := 0#32 } : MS) k → hasS ({ st with seen := 0#32 } : MS).seen (nx ({ st with seen := 0#32 } : MS) k).toNat = true := fun h => by omega
      obtain ⟨k1, k2⟩ := findF_spec hn (W.n + 1) k { st with seen := 0#32 } (by omega) hs hf0 hpre
      obtain ⟨b1, b2⟩ := findF_bl hn (W.n + 1) k { st with seen := 0#32 } (by omega) hf0.ok (hb.congr fun _ _ => rfl)
      have hul : unseen W.n ({ st with seen := 0#32 } : MS).seen < W.n + 1 := by have := unseen_le W.n ({ st with seen := 0#32 } : MS).seen; omega
      have kf := findF_fail hn (W.n + 1) k { st with seen := 0#32 } (by omega) hs hf0 hpre hul
      generalize findF W sm (W.n + 1) k { st with seen := 0#32 } = e at *
      obtain ⟨yes, st'⟩ := e
      simp only [] at k1 k2 b1 b2 kf ⊢
      have e0 : nx ({ st with seen := 0#32 } : MS) = nx st := rfl
      have e1 : bf ({ st with seen := 0#32 } : MS) = bf st := rfl
      rw [e0] at hx0
      rw [e1] at kf b2
      cases yes
      · obtain ⟨n1, n2⟩ := k2 rfl
        have n1' : st'.next = st.next := n1
        have n2' : st'.before = st.before := n2
        have en : nx st' = nx st := by unfold nx; rw [n1']
        have eb : bf st' = bf st := by unfold bf; rw [n2']
        obtain ⟨c1, c2⟩ := kf rfl
        have hf' := hf.congr n1' n2'
        refine ⟨hf', fun p h1 h2 => by rw [en]; exact hr p (by omega) h2, fun r => L r || decide (r = k) || (List.range W.n).any (fun q => hasS st'.seen q && decide (bf st q = (r : Int))), fun q => R q || hasS st'.seen q, ⟨fun p hp => ?_, fun q hq => ?_⟩, fun p hp hsp => ?_⟩
        · simp only [Bool.or_eq_true, decide_eq_true_eq, List.any_eq_true, List.mem_range, Bool.and_eq_true] at hp ⊢
          rcases hp with (hp | hp) | ⟨q, hq, hsq, hbq⟩
          · obtain ⟨g1, g2, g3⟩ := hb.cl p hp
            exact ⟨g1, g2, fun q a b c => .inl (g3 q a b c)⟩
          · rw [hp]
            exact ⟨by omega, hs, fun q a b c => .inr (c1 q a b c)⟩
          · have hbb := bf_bound hf.ok (q := q) (by omega)
            have hpn : p < W.n := by omega
            have hnp := (hf.fit p q hpn hq).2 hbq
            obtain ⟨s1, s2, s3⟩ := hf.ed p q hpn hq hnp
            refine ⟨hpn, s1, fun q2 a b c => .inr ?_⟩
            rcases c2 q hsq with h | ⟨-, -, -, h4⟩
            · simp at h
            · refine h4 q2 a b ?_
              rw [hbq]
              exact c
        · simp only [Bool.or_eq_true, decide_eq_true_eq, List.any_eq_true, List.mem_range, Bool.and_eq_true] at hq ⊢
          rcases hq with hq | hq
          · obtain ⟨g1, g2, r, g3, g4⟩ := hb.mt q hq
            exact ⟨g1, g2, r, by rw [eb]; exact g3, .inl (.inl g4)⟩
          · rcases c2 q hq with h | ⟨h1, h2, h3, -⟩
            · simp at h
            · exact ⟨h1, h2, (bf st q).toNat, by rw [eb]; omega, .inr ⟨q, h1, hq, by omega⟩⟩
        · rw [en]
          by_cases e : p = k
          · right; simp [e]
          · rcases hd p (by omega) hsp with h | h
            · exact .inl h
            · right; simp [h]
      · obtain ⟨o1, o2, o3, o4, o5, o6, o7⟩ := k1 rfl
        rw [e0] at o2 o6
        refine ⟨⟨o1, fun p q hp hq => o2 p q hp hq (by omega), o4⟩, fun p h1 h2 => ?_, L, R, hb.congr b2, fun p hp hsp => ?_⟩
        · have h := o6 p h2 (by omega)
          have := hr p (by omega) h2
          omega
        · by_cases e : p = k
          · rw [e]; exact .inl o5
          · rcases hd p (by omega) hsp with h | h
            · exact .inl ((o6 p (by omega) e).2 h)
            · exact .inr h
    · rw [if_neg hs]
      refine ⟨hf, fun p h1 h2 => hr p (by omega) h2, L, R, hb, fun p hp hsp => ?_⟩
      by_cases e : p = k
      · rw [e] at hsp; exact absurd hsp hs
      · exact hd p (by omega) hsp
end
end Go.Proofs.Yteljjkghjbofnaa
