/- slices' stable, SortStableFunc, and faces.sorted, at rows of one's own. -/
import Derived.Test.YtlglfcdobbocnaaGreatWq
set_option maxRecDepth 100000
namespace Go.Proofs.YtlglfcdobbocnaaGreat
open Go Go.Proofs Go.RowKit
attribute [local go_sem] Oper.semAt_some
def Nothing (w : World) (e : Ending) (w' : World) : Prop := e = .returned (.tuple #[]) ∧ w' = w
theorem mult_step {t x a : Nat} (hx : t ∣ x) (ha : t ∣ a) (h : x < a) : x + t ≤ a := by
  obtain ⟨p, rfl⟩ := hx
  obtain ⟨q, rfl⟩ := ha
  have hpq : p < q := Nat.lt_of_mul_lt_mul_left h
  have := Nat.mul_le_mul_left t (show p + 1 ≤ q from hpq)
  rw [Nat.mul_add, Nat.mul_one] at this
  exact this
section
variable {α : Type} [Inhabited α] {lt : α → α → Prop}
/-- Blocks of t rise, as far as a. -/
def DoneB (lt : α → α → Prop) (l : List α) (t a : Nat) : Prop := ∀ x, t ∣ x → x + t ≤ a → Srt lt l x (x + t)
/-- Blocks of s rise, from a on. -/
def RestB (lt : α → α → Prop) (l : List α) (s n a : Nat) : Prop := ∀ x, a ≤ x → s ∣ x → Srt lt l x (min (x + s) n)
theorem DoneB.zero {l : List α} {t : Nat} (ht : 0 < t) : DoneB lt l t 0 := fun x _ h => by omega
theorem DoneB.step {l l' : List α} {t a : Nat} (h : DoneB lt l t a) (ha : t ∣ a) (he : Ed l a (a + t) l') (hs : Srt lt l' a (a + t)) : DoneB lt l' t (a + t) := by
  intro x hx hxa
  rcases Nat.lt_or_ge x a with k | k
  · exact (h x hx (mult_step hx ha k)).out he (.inl (mult_step hx ha k))
  · obtain rfl : x = a := by omega
    exact hs
theorem DoneB.done {l : List α} {t n a : Nat} (h : DoneB lt l t a) (ha : t ∣ a) (hs : Srt lt l a (min (a + t) n)) (hn : n < a + t) : RestB lt l t n 0 := by
  intro x _ hx
  rcases Nat.lt_trichotomy x a with k | k | k
  · exact (h x hx (mult_step hx ha k)).sub (Nat.le_refl _) (Nat.min_le_left _ _)
  · subst k; exact hs
  · have := mult_step ha hx k
    exact .short (by have := Nat.min_le_right (x + t) n; omega)
theorem DoneB.out {l l' : List α} {t a b : Nat} (h : DoneB lt l t a) (he : Ed l a b l') : DoneB lt l' t a := fun x hx hxa => (h x hx hxa).out he (.inl hxa)
theorem RestB.step {l l' : List α} {s n a b : Nat} (h : RestB lt l s n a) (hab : a ≤ b) (he : Ed l a b l') : RestB lt l' s n b := fun x hx hd => (h x (by omega) hd).out he (.inr hx)
theorem RestB.all {l : List α} {s n : Nat} (h : RestB lt l s n 0) (hn : n ≤ s) : Srt lt l 0 n := by
  have := h 0 (Nat.le_refl _) (Nat.dvd_zero _)
  rw [Nat.zero_add, Nat.min_eq_right hn] at this
  exact this
end
set_option maxHeartbeats 400000 in
theorem insertionP_nil (v f : Value) (w : World) : Calls Tryz.prog 96 #[v, .int .i64 0, .int .i64 0, f] w (Nothing w) := by
  go_enter Tryz.func96, Tryz.ntmps96
  go_wp2
  go_loopw [8] (fun iv wr => iv = .int .i64 1 ∧ wr = w) (fun _ _ => 0)
  case atStart => exact ⟨rfl, rfl⟩
  case round =>
    obtain ⟨rfl, rfl⟩ := hrel
    go_wp2
    refine bodyPost_ret (results_none rfl _ _ _) rfl ⟨rfl, rfl⟩
set_option maxHeartbeats 800000 in
theorem stableP_nil (v f : Value) (w : World) : Calls Tryz.prog 106 #[v, .int .i64 0, f] w (Nothing w) := by
  go_enter Tryz.func106, Tryz.ntmps106
  go_wp2
  go_loopw [7, 8] (fun iv jv wr => iv = .int .i64 0 ∧ jv = .int .i64 20 ∧ wr = w) (fun _ _ _ => 0)
  case atStart => exact ⟨rfl, rfl, rfl⟩
  case round =>
    obtain ⟨rfl, rfl, rfl⟩ := hrel
    go_wp2_with fail
    refine (insertionP_nil v f _).mono ?_
    rintro e x ⟨rfl, rfl⟩
    go_wp2
    go_loopw [6] (fun iv wr => iv = .int .i64 20 ∧ wr = x) (fun _ _ => 0)
    case atStart => exact ⟨rfl, rfl⟩
    case round =>
      obtain ⟨rfl, rfl⟩ := hrel
      go_wp2
      refine bodyPost_ret (results_none rfl _ _ _) rfl ⟨rfl, rfl⟩
set_option maxHeartbeats 8000000 in
theorem stableP_any (g c base n cb : Nat) (caps : Array Value) (D : Pt → Prop) (cm : Pt → Pt → Int) (w0 : World) (hcm : CmpOk cb caps ptV D cm w0 g) (hL : Lin D fun x y => cm x y < 0) (l : List Pt) (w : World) (h : OwnP w base (.slice (some ⟨g, 0, none⟩) n c) l) (hg0 : w0.grownBy w (some g)) (hD : All D l) (hl : l.length < 1099511627776) : Calls Tryz.prog 106 #[.slice (some ⟨g, 0, none⟩) n c, .int .i64 n, .func (.func cb) #[] caps] w (TurnedP l g c base n 0 n (fun l' => Srt (fun x y => cm x y < 0) l' 0 n) w) := by
  have HCM := Lib.hid hcm
  have H := Lib.hid h
  have HN := Lib.hid h.n_eq
  have HG0 := Lib.hid hg0
  have HD := Lib.hid hD
  have hnl : n < 1099511627776 := by rw [h.n_eq]; exact hl
  have HLL := Lib.hid hl
  clear hcm h hg0 hD hl
  go_enter Tryz.func106, Tryz.ntmps106
  go_wp2
  go_loopw [7, 8] (fun av bv wr => ∃ (a : Nat) (cur : List Pt), a ≤ n ∧ av = .int .i64 a ∧ bv = .int .i64 (a + 20 : Nat) ∧ 20 ∣ a ∧ Ed l 0 n cur ∧ DoneB (fun x y => cm x y < 0) cur 20 a ∧ OwnP wr base (.slice (some ⟨g, 0, none⟩) n c) cur ∧ w.grownBy wr (some g)) (fun _ bv _ => n + 20 - (intOf bv).toNat)
  case atStart => exact ⟨0, l, Nat.zero_le _, rfl, rfl, Nat.dvd_zero _, .refl, .zero (by omega), H.out, grownBy_same _ _⟩
  case round =>
    clear H
    obtain ⟨a, cur, han, rfl, rfl, hda, hed, hf, ho, hg⟩ := hrel
    obtain ⟨b, hb⟩ : ∃ b, a + 20 = b := ⟨_, rfl⟩
    rw [hb]
    have HDA := Lib.hid hda
    have HED := Lib.hid hed
    have HF := Lib.hid hf
    have HO := Lib.hid ho
    have HG := Lib.hid hg
    have HCL := Lib.hid hed.len
    have HB := Lib.hid hb
    clear hda hed hf ho hg hb
    by_cases hlt : b ≤ n
    ·
      have w1 : IntKind.i64.wrap ((b : Int) + 20) = ((b + 20 : Nat) : Int) := by rw [IntWalk.i64_in _ (by omega)]; omega
      go_wp2_with fail
      refine (insertionP_any cur g c base n a b cb caps D cm w0 _ HO.out (HG0.out.trans HG.out) HCM.out hL (HED.out.all HD.out) (by rw [HCL.out, ← HN.out]; exact hlt) (by have := HB.out; omega) (by rw [HCL.out]; exact HLL.out)).mono ?_
      rintro e x ⟨l2, rfl, he, hs, ho, hg⟩
      have HE := Lib.hid he
      have HS := Lib.hid hs
      have HO2 := Lib.hid ho
      have HG2 := Lib.hid (HG.out.trans hg)
      clear he hs ho hg
      go_wp2
      have hb := HB.out
      refine ⟨⟨b, l2, hlt, rfl, rfl, by rw [← hb]; exact Nat.dvd_add HDA.out (Nat.dvd_refl _), HED.out.trans (HE.out.wide (Nat.zero_le _) hlt), by rw [← hb]; exact HF.out.step HDA.out (by rw [hb]; exact HE.out) (by rw [hb]; exact HS.out), HO2.out, HG2.out⟩, by simp [intOf]; omega⟩
    ·
      go_wp2_with fail
      refine (insertionP_any cur g c base n a n cb caps D cm w0 _ HO.out (HG0.out.trans HG.out) HCM.out hL (HED.out.all HD.out) (by rw [HCL.out, ← HN.out]; exact Nat.le_refl _) han (by rw [HCL.out]; exact HLL.out)).mono ?_
      rintro e x ⟨l2, rfl, he, hs, ho, hg⟩
      have HED2 := Lib.hid (HED.out.trans (he.wide (Nat.zero_le _) (Nat.le_refl _)))
      have HR : Hid (RestB (fun x y => cm x y < 0) l2 20 n 0) := Lib.hid ((HF.out.out he).done HDA.out (hs.sub (Nat.le_refl _) (Nat.min_le_right _ _)) (by have := HB.out; omega))
      have HO2 := Lib.hid ho
      have HG2 := Lib.hid (HG.out.trans hg)
      clear he hs ho hg HO HG HF HED HCL HDA HB hlt han
      go_wp2
      go_loopw [6] (fun sv wr => ∃ (s : Nat) (cur : List Pt), 0 < s ∧ s < 2199023255552 ∧ sv = .int .i64 s ∧ Ed l 0 n cur ∧ RestB (fun x y => cm x y < 0) cur s n 0 ∧ OwnP wr base (.slice (some ⟨g, 0, none⟩) n c) cur ∧ w.grownBy wr (some g)) (fun sv _ => n - (intOf sv).toNat)
      case atStart => exact ⟨20, l2, by omega, by omega, rfl, HED2.out, HR.out, HO2.out, HG2.out⟩
      case round =>
        clear HED2 HR HO2 HG2
        obtain ⟨s, cur, hs0, hs1, rfl, hed, hf, ho, hg⟩ := hrel
        have HED := Lib.hid hed
        have HF := Lib.hid hf
        have HO := Lib.hid ho
        have HG := Lib.hid hg
        have HCL := Lib.hid hed.len
        clear hed hf ho hg
        by_cases hsn : s < n
        case neg =>
          go_wp2
          refine bodyPost_ret (results_none rfl _ _ _) rfl ⟨cur, rfl, HED.out, HF.out.all (by omega), HO.out, HG.out⟩
        obtain ⟨t, ht⟩ : ∃ t, 2 * s = t := ⟨_, rfl⟩
        have w1 : IntKind.i64.wrap (2 * (s : Int)) = (t : Int) := by rw [IntWalk.i64_in _ (by omega)]; omega
        have w2 : IntKind.i64.wrap ((s : Int) * 2) = (t : Int) := by rw [IntWalk.i64_in _ (by omega)]; omega
        have HT := Lib.hid ht
        have ht0 : 0 < t := by omega
        have ht1 : t < 2199023255552 := by omega
        have hst : s < t := by omega
        have HTS : Hid (s ∣ t) := Lib.hid ⟨2, by omega⟩
        clear ht
        go_wp2
        go_loopw [7, 8] (fun av bv wr => ∃ (a : Nat) (cur : List Pt), a ≤ n ∧ av = .int .i64 a ∧ bv = .int .i64 (a + t : Nat) ∧ t ∣ a ∧ Ed l 0 n cur ∧ DoneB (fun x y => cm x y < 0) cur t a ∧ RestB (fun x y => cm x y < 0) cur s n a ∧ OwnP wr base (.slice (some ⟨g, 0, none⟩) n c) cur ∧ w.grownBy wr (some g)) (fun _ bv _ => n + t - (intOf bv).toNat)
        case atStart => exact ⟨0, cur, Nat.zero_le _, rfl, by rw [Nat.zero_add], Nat.dvd_zero _, HED.out, .zero ht0, HF.out, HO.out, HG.out⟩
        case round =>
          clear HED HF HO HG HCL
          obtain ⟨a, cur, han, rfl, rfl, hda, hed, hf, hr, ho, hg⟩ := hrel
          obtain ⟨b, hb⟩ : ∃ b, a + t = b := ⟨_, rfl⟩
          rw [hb]
          obtain ⟨m, hm⟩ : ∃ m, a + s = m := ⟨_, rfl⟩
          have w3 : IntKind.i64.wrap ((a : Int) + s) = (m : Int) := by rw [IntWalk.i64_in _ (by omega)]; omega
          have HSA : Hid (s ∣ a) := Lib.hid (Nat.dvd_trans HTS.out hda)
          have HSM : Hid (s ∣ m) := Lib.hid (by rw [← hm]; exact Nat.dvd_add HSA.out (Nat.dvd_refl _))
          have ham : a < m := by omega
          have hmb : m < b := by omega
          have HDA := Lib.hid hda
          have HED := Lib.hid hed
          have HF := Lib.hid hf
          have HR := Lib.hid hr
          have HO := Lib.hid ho
          have HG := Lib.hid hg
          have HCL := Lib.hid hed.len
          have HB := Lib.hid hb
          have HM := Lib.hid hm
          clear hda hed hf hr ho hg hb hm
          by_cases hlt : b ≤ n
          ·
            have w4 : IntKind.i64.wrap ((b : Int) + t) = ((b + t : Nat) : Int) := by rw [IntWalk.i64_in _ (by omega)]; omega
            have s1 : Srt (fun x y => cm x y < 0) cur a m := by
              have := HR.out a (by omega) HSA.out
              rw [show min (a + s) n = m by have := HM.out; have := HB.out; have := HT.out; omega] at this
              exact this
            have s2 : Srt (fun x y => cm x y < 0) cur m b := by
              have := HR.out m (by omega) HSM.out
              rw [show min (m + s) n = b by have := HM.out; have := HB.out; have := HT.out; omega] at this
              exact this
            have S1 := Lib.hid s1
            have S2 := Lib.hid s2
            clear s1 s2
            go_wp2_with fail
            refine (symP_any g c base n cb caps D cm w0 HCM.out hL (b - a) cur a m b _ HO.out (HG0.out.trans HG.out) (HED.out.all HD.out) ham hmb (by rw [HCL.out, ← HN.out]; exact hlt) (by rw [HCL.out]; exact HLL.out) S1.out S2.out (Nat.le_refl _)).mono ?_
            rintro e x ⟨l2, rfl, he, hs, ho, hg⟩
            have HE := Lib.hid he
            have HS := Lib.hid hs
            have HO2 := Lib.hid ho
            have HG2 := Lib.hid (HG.out.trans hg)
            clear he hs ho hg
            go_wp2
            have hb := HB.out
            refine ⟨⟨b, l2, hlt, rfl, rfl, by rw [← hb]; exact Nat.dvd_add HDA.out (Nat.dvd_refl _), HED.out.trans (HE.out.wide (Nat.zero_le _) hlt), by rw [← hb]; exact HF.out.step HDA.out (by rw [hb]; exact HE.out) (by rw [hb]; exact HS.out), HR.out.step (by omega) HE.out, HO2.out, HG2.out⟩, by simp [intOf]; omega⟩
          ·
            by_cases hmn : m < n
            ·
              have s1 : Srt (fun x y => cm x y < 0) cur a m := by
                have := HR.out a (by omega) HSA.out
                rw [show min (a + s) n = m by have := HM.out; have := HB.out; have := HT.out; omega] at this
                exact this
              have s2 : Srt (fun x y => cm x y < 0) cur m n := by
                have := HR.out m (by omega) HSM.out
                rw [show min (m + s) n = n by have := HM.out; have := HB.out; have := HT.out; omega] at this
                exact this
              have S1 := Lib.hid s1
              have S2 := Lib.hid s2
              clear s1 s2
              go_wp2_with fail
              refine (symP_any g c base n cb caps D cm w0 HCM.out hL (n - a) cur a m n _ HO.out (HG0.out.trans HG.out) (HED.out.all HD.out) ham hmn (by rw [HCL.out, ← HN.out]; exact Nat.le_refl _) (by rw [HCL.out]; exact HLL.out) S1.out S2.out (Nat.le_refl _)).mono ?_
              rintro e x ⟨l2, rfl, he, hs, ho, hg⟩
              have HE := Lib.hid he
              have HS := Lib.hid hs
              have HO2 := Lib.hid ho
              have HG2 := Lib.hid (HG.out.trans hg)
              clear he hs ho hg
              go_wp2
              have hb := HB.out
              refine ⟨⟨t, l2, ht0, ht1, rfl, HED.out.trans (HE.out.wide (Nat.zero_le _) (Nat.le_refl _)), (HF.out.out HE.out).done HDA.out (HS.out.sub (Nat.le_refl _) (Nat.min_le_right _ _)) (by omega), HO2.out, HG2.out⟩, by simp [intOf]; omega⟩
            ·
              have s1 : Srt (fun x y => cm x y < 0) cur a n := by
                have := HR.out a (by omega) HSA.out
                rw [show min (a + s) n = n by have := HM.out; have := HB.out; have := HT.out; omega] at this
                exact this
              have S1 := Lib.hid s1
              clear s1
              go_wp2
              have hb := HB.out
              refine ⟨⟨t, cur, ht0, ht1, rfl, HED.out, HF.out.done HDA.out (S1.out.sub (Nat.le_refl _) (Nat.min_le_right _ _)) (by omega), HO.out, HG.out⟩, by simp [intOf]; omega⟩
/-- What sorting hands back. -/
def SortingP (cm : Pt → Pt → Int) (v : Value) (l : List Pt) (base : Nat) (w : World) (e : Ending) (w' : World) : Prop := ∃ l' : List Pt, e = .returned (.tuple #[]) ∧ l'.Perm l ∧ Srt (fun x y => cm x y < 0) l' 0 l'.length ∧ OwnP w' base v l' ∧ w.grownBy w' v.ownBlock
set_option maxHeartbeats 800000 in
theorem sortStableP_any (v : Value) (l : List Pt) (base cb : Nat) (caps : Array Value) (D : Pt → Prop) (cm : Pt → Pt → Int) (w : World) (h : OwnP w base v l) (hcm : ∀ g, v.ownBlock = some g → CmpOk cb caps ptV D cm w g) (hL : Lin D fun x y => cm x y < 0) (hD : All D l) (hl : l.length < 1099511627776) : Calls Tryz.prog 79 #[v, .func (.func cb) #[] caps] w (SortingP cm v l base w) := by
  rcases h.2 with ⟨hv, h0⟩ | ⟨g, c, cur, hv, hb0, hh, hn, hc, hs, ht⟩
  ·
    subst hv
    have hl0 : l = [] := List.eq_nil_of_length_eq_zero h0
    subst hl0
    have H := Lib.hid h
    clear h h0
    go_enter Tryz.func79, Tryz.ntmps79
    go_wp2_with fail
    refine (stableP_nil _ _ w).mono ?_
    rintro e x ⟨rfl, rfl⟩
    go_wp2
    exact bodyPost_ret (results_none rfl _ _ _) rfl ⟨[], rfl, List.Perm.refl _, .short (by simp), H.out, grownBy_same _ _⟩
  ·
    subst hv
    have HC := Lib.hid (hcm g rfl)
    have H := Lib.hid h
    clear h hcm hh hs ht
    go_enter Tryz.func79, Tryz.ntmps79
    go_wp2_with fail
    refine (stableP_any g c base l.length cb caps D cm w HC.out hL l w H.out (grownBy_same _ _) hD hl).mono ?_
    rintro e x ⟨l2, rfl, he, hs, ho, hg⟩
    have HE := Lib.hid he
    have HS := Lib.hid hs
    have HO := Lib.hid ho
    have HG := Lib.hid hg
    clear he hs ho hg
    go_wp2
    exact bodyPost_ret (results_none rfl _ _ _) rfl ⟨l2, rfl, HE.out.perm, by rw [HE.out.len]; exact HS.out, HO.out, HG.out⟩
set_option maxHeartbeats 800000 in
theorem sortedP_any (v : Value) (l : List Pt) (base cb : Nat) (caps : Array Value) (D : Pt → Prop) (cm : Pt → Pt → Int) (w : World) (h : OwnP w base v l) (hcm : ∀ g, v.ownBlock = some g → CmpOk cb caps ptV D cm w g) (hL : Lin D fun x y => cm x y < 0) (hD : All D l) (hl : l.length < 1099511627776) : Calls Tryz.prog 48 #[v, .func (.func cb) #[] caps] w (SortingP cm v l base w) := by
  go_enter Tryz.func48, Tryz.ntmps48
  go_wp2_with fail
  refine (sortStableP_any v l base cb caps D cm w h hcm hL hD hl).mono ?_
  rintro e x ⟨l2, rfl, h1, h2, h3, h4⟩
  have H1 := Lib.hid h1
  have H2 := Lib.hid h2
  have H3 := Lib.hid h3
  have H4 := Lib.hid h4
  clear h1 h2 h3 h4
  go_wp2
  exact bodyPost_ret (results_none rfl _ _ _) rfl ⟨l2, rfl, H1.out, H2.out, H3.out, H4.out⟩
set_option maxHeartbeats 400000 in
theorem insertionN_nil (v f : Value) (w : World) : Calls Tryz.prog 118 #[v, .int .i64 0, .int .i64 0, f] w (Nothing w) := by
  go_enter Tryz.func118, Tryz.ntmps118
  go_wp2
  go_loopw [8] (fun iv wr => iv = .int .i64 1 ∧ wr = w) (fun _ _ => 0)
  case atStart => exact ⟨rfl, rfl⟩
  case round =>
    obtain ⟨rfl, rfl⟩ := hrel
    go_wp2
    refine bodyPost_ret (results_none rfl _ _ _) rfl ⟨rfl, rfl⟩
set_option maxHeartbeats 800000 in
theorem stableN_nil (v f : Value) (w : World) : Calls Tryz.prog 107 #[v, .int .i64 0, f] w (Nothing w) := by
  go_enter Tryz.func107, Tryz.ntmps107
  go_wp2
  go_loopw [7, 8] (fun iv jv wr => iv = .int .i64 0 ∧ jv = .int .i64 20 ∧ wr = w) (fun _ _ _ => 0)
  case atStart => exact ⟨rfl, rfl, rfl⟩
  case round =>
    obtain ⟨rfl, rfl, rfl⟩ := hrel
    go_wp2_with fail
    refine (insertionN_nil v f _).mono ?_
    rintro e x ⟨rfl, rfl⟩
    go_wp2
    go_loopw [6] (fun iv wr => iv = .int .i64 20 ∧ wr = x) (fun _ _ => 0)
    case atStart => exact ⟨rfl, rfl⟩
    case round =>
      obtain ⟨rfl, rfl⟩ := hrel
      go_wp2
      refine bodyPost_ret (results_none rfl _ _ _) rfl ⟨rfl, rfl⟩
set_option maxHeartbeats 8000000 in
theorem stableN_any (g c base n cb : Nat) (caps : Array Value) (D : Int → Prop) (cm : Int → Int → Int) (w0 : World) (hcm : CmpOk cb caps (fun x : Int => Value.int .i64 x) D cm w0 g) (hL : Lin D fun x y => cm x y < 0) (l : List Int) (w : World) (h : OwnN w base (.slice (some ⟨g, 0, none⟩) n c) l) (hg0 : w0.grownBy w (some g)) (hD : All D l) (hl : l.length < 1099511627776) : Calls Tryz.prog 107 #[.slice (some ⟨g, 0, none⟩) n c, .int .i64 n, .func (.func cb) #[] caps] w (TurnedN l g c base n 0 n (fun l' => Srt (fun x y => cm x y < 0) l' 0 n) w) := by
  have HCM := Lib.hid hcm
  have H := Lib.hid h
  have HN := Lib.hid h.n_eq
  have HG0 := Lib.hid hg0
  have HD := Lib.hid hD
  have hnl : n < 1099511627776 := by rw [h.n_eq]; exact hl
  have HLL := Lib.hid hl
  clear hcm h hg0 hD hl
  go_enter Tryz.func107, Tryz.ntmps107
  go_wp2
  go_loopw [7, 8] (fun av bv wr => ∃ (a : Nat) (cur : List Int), a ≤ n ∧ av = .int .i64 a ∧ bv = .int .i64 (a + 20 : Nat) ∧ 20 ∣ a ∧ Ed l 0 n cur ∧ DoneB (fun x y => cm x y < 0) cur 20 a ∧ OwnN wr base (.slice (some ⟨g, 0, none⟩) n c) cur ∧ w.grownBy wr (some g)) (fun _ bv _ => n + 20 - (intOf bv).toNat)
  case atStart => exact ⟨0, l, Nat.zero_le _, rfl, rfl, Nat.dvd_zero _, .refl, .zero (by omega), H.out, grownBy_same _ _⟩
  case round =>
    clear H
    obtain ⟨a, cur, han, rfl, rfl, hda, hed, hf, ho, hg⟩ := hrel
    obtain ⟨b, hb⟩ : ∃ b, a + 20 = b := ⟨_, rfl⟩
    rw [hb]
    have HDA := Lib.hid hda
    have HED := Lib.hid hed
    have HF := Lib.hid hf
    have HO := Lib.hid ho
    have HG := Lib.hid hg
    have HCL := Lib.hid hed.len
    have HB := Lib.hid hb
    clear hda hed hf ho hg hb
    by_cases hlt : b ≤ n
    ·
      have w1 : IntKind.i64.wrap ((b : Int) + 20) = ((b + 20 : Nat) : Int) := by rw [IntWalk.i64_in _ (by omega)]; omega
      go_wp2_with fail
      refine (insertionN_any cur g c base n a b cb caps D cm w0 _ HO.out (HG0.out.trans HG.out) HCM.out hL (HED.out.all HD.out) (by rw [HCL.out, ← HN.out]; exact hlt) (by have := HB.out; omega) (by rw [HCL.out]; exact HLL.out)).mono ?_
      rintro e x ⟨l2, rfl, he, hs, ho, hg⟩
      have HE := Lib.hid he
      have HS := Lib.hid hs
      have HO2 := Lib.hid ho
      have HG2 := Lib.hid (HG.out.trans hg)
      clear he hs ho hg
      go_wp2
      have hb := HB.out
      refine ⟨⟨b, l2, hlt, rfl, rfl, by rw [← hb]; exact Nat.dvd_add HDA.out (Nat.dvd_refl _), HED.out.trans (HE.out.wide (Nat.zero_le _) hlt), by rw [← hb]; exact HF.out.step HDA.out (by rw [hb]; exact HE.out) (by rw [hb]; exact HS.out), HO2.out, HG2.out⟩, by simp [intOf]; omega⟩
    ·
      go_wp2_with fail
      refine (insertionN_any cur g c base n a n cb caps D cm w0 _ HO.out (HG0.out.trans HG.out) HCM.out hL (HED.out.all HD.out) (by rw [HCL.out, ← HN.out]; exact Nat.le_refl _) han (by rw [HCL.out]; exact HLL.out)).mono ?_
      rintro e x ⟨l2, rfl, he, hs, ho, hg⟩
      have HED2 := Lib.hid (HED.out.trans (he.wide (Nat.zero_le _) (Nat.le_refl _)))
      have HR : Hid (RestB (fun x y => cm x y < 0) l2 20 n 0) := Lib.hid ((HF.out.out he).done HDA.out (hs.sub (Nat.le_refl _) (Nat.min_le_right _ _)) (by have := HB.out; omega))
      have HO2 := Lib.hid ho
      have HG2 := Lib.hid (HG.out.trans hg)
      clear he hs ho hg HO HG HF HED HCL HDA HB hlt han
      go_wp2
      go_loopw [6] (fun sv wr => ∃ (s : Nat) (cur : List Int), 0 < s ∧ s < 2199023255552 ∧ sv = .int .i64 s ∧ Ed l 0 n cur ∧ RestB (fun x y => cm x y < 0) cur s n 0 ∧ OwnN wr base (.slice (some ⟨g, 0, none⟩) n c) cur ∧ w.grownBy wr (some g)) (fun sv _ => n - (intOf sv).toNat)
      case atStart => exact ⟨20, l2, by omega, by omega, rfl, HED2.out, HR.out, HO2.out, HG2.out⟩
      case round =>
        clear HED2 HR HO2 HG2
        obtain ⟨s, cur, hs0, hs1, rfl, hed, hf, ho, hg⟩ := hrel
        have HED := Lib.hid hed
        have HF := Lib.hid hf
        have HO := Lib.hid ho
        have HG := Lib.hid hg
        have HCL := Lib.hid hed.len
        clear hed hf ho hg
        by_cases hsn : s < n
        case neg =>
          go_wp2
          refine bodyPost_ret (results_none rfl _ _ _) rfl ⟨cur, rfl, HED.out, HF.out.all (by omega), HO.out, HG.out⟩
        obtain ⟨t, ht⟩ : ∃ t, 2 * s = t := ⟨_, rfl⟩
        have w1 : IntKind.i64.wrap (2 * (s : Int)) = (t : Int) := by rw [IntWalk.i64_in _ (by omega)]; omega
        have w2 : IntKind.i64.wrap ((s : Int) * 2) = (t : Int) := by rw [IntWalk.i64_in _ (by omega)]; omega
        have HT := Lib.hid ht
        have ht0 : 0 < t := by omega
        have ht1 : t < 2199023255552 := by omega
        have hst : s < t := by omega
        have HTS : Hid (s ∣ t) := Lib.hid ⟨2, by omega⟩
        clear ht
        go_wp2
        go_loopw [7, 8] (fun av bv wr => ∃ (a : Nat) (cur : List Int), a ≤ n ∧ av = .int .i64 a ∧ bv = .int .i64 (a + t : Nat) ∧ t ∣ a ∧ Ed l 0 n cur ∧ DoneB (fun x y => cm x y < 0) cur t a ∧ RestB (fun x y => cm x y < 0) cur s n a ∧ OwnN wr base (.slice (some ⟨g, 0, none⟩) n c) cur ∧ w.grownBy wr (some g)) (fun _ bv _ => n + t - (intOf bv).toNat)
        case atStart => exact ⟨0, cur, Nat.zero_le _, rfl, by rw [Nat.zero_add], Nat.dvd_zero _, HED.out, .zero ht0, HF.out, HO.out, HG.out⟩
        case round =>
          clear HED HF HO HG HCL
          obtain ⟨a, cur, han, rfl, rfl, hda, hed, hf, hr, ho, hg⟩ := hrel
          obtain ⟨b, hb⟩ : ∃ b, a + t = b := ⟨_, rfl⟩
          rw [hb]
          obtain ⟨m, hm⟩ : ∃ m, a + s = m := ⟨_, rfl⟩
          have w3 : IntKind.i64.wrap ((a : Int) + s) = (m : Int) := by rw [IntWalk.i64_in _ (by omega)]; omega
          have HSA : Hid (s ∣ a) := Lib.hid (Nat.dvd_trans HTS.out hda)
          have HSM : Hid (s ∣ m) := Lib.hid (by rw [← hm]; exact Nat.dvd_add HSA.out (Nat.dvd_refl _))
          have ham : a < m := by omega
          have hmb : m < b := by omega
          have HDA := Lib.hid hda
          have HED := Lib.hid hed
          have HF := Lib.hid hf
          have HR := Lib.hid hr
          have HO := Lib.hid ho
          have HG := Lib.hid hg
          have HCL := Lib.hid hed.len
          have HB := Lib.hid hb
          have HM := Lib.hid hm
          clear hda hed hf hr ho hg hb hm
          by_cases hlt : b ≤ n
          ·
            have w4 : IntKind.i64.wrap ((b : Int) + t) = ((b + t : Nat) : Int) := by rw [IntWalk.i64_in _ (by omega)]; omega
            have s1 : Srt (fun x y => cm x y < 0) cur a m := by
              have := HR.out a (by omega) HSA.out
              rw [show min (a + s) n = m by have := HM.out; have := HB.out; have := HT.out; omega] at this
              exact this
            have s2 : Srt (fun x y => cm x y < 0) cur m b := by
              have := HR.out m (by omega) HSM.out
              rw [show min (m + s) n = b by have := HM.out; have := HB.out; have := HT.out; omega] at this
              exact this
            have S1 := Lib.hid s1
            have S2 := Lib.hid s2
            clear s1 s2
            go_wp2_with fail
            refine (symN_any g c base n cb caps D cm w0 HCM.out hL (b - a) cur a m b _ HO.out (HG0.out.trans HG.out) (HED.out.all HD.out) ham hmb (by rw [HCL.out, ← HN.out]; exact hlt) (by rw [HCL.out]; exact HLL.out) S1.out S2.out (Nat.le_refl _)).mono ?_
            rintro e x ⟨l2, rfl, he, hs, ho, hg⟩
            have HE := Lib.hid he
            have HS := Lib.hid hs
            have HO2 := Lib.hid ho
            have HG2 := Lib.hid (HG.out.trans hg)
            clear he hs ho hg
            go_wp2
            have hb := HB.out
            refine ⟨⟨b, l2, hlt, rfl, rfl, by rw [← hb]; exact Nat.dvd_add HDA.out (Nat.dvd_refl _), HED.out.trans (HE.out.wide (Nat.zero_le _) hlt), by rw [← hb]; exact HF.out.step HDA.out (by rw [hb]; exact HE.out) (by rw [hb]; exact HS.out), HR.out.step (by omega) HE.out, HO2.out, HG2.out⟩, by simp [intOf]; omega⟩
          ·
            by_cases hmn : m < n
            ·
              have s1 : Srt (fun x y => cm x y < 0) cur a m := by
                have := HR.out a (by omega) HSA.out
                rw [show min (a + s) n = m by have := HM.out; have := HB.out; have := HT.out; omega] at this
                exact this
              have s2 : Srt (fun x y => cm x y < 0) cur m n := by
                have := HR.out m (by omega) HSM.out
                rw [show min (m + s) n = n by have := HM.out; have := HB.out; have := HT.out; omega] at this
                exact this
              have S1 := Lib.hid s1
              have S2 := Lib.hid s2
              clear s1 s2
              go_wp2_with fail
              refine (symN_any g c base n cb caps D cm w0 HCM.out hL (n - a) cur a m n _ HO.out (HG0.out.trans HG.out) (HED.out.all HD.out) ham hmn (by rw [HCL.out, ← HN.out]; exact Nat.le_refl _) (by rw [HCL.out]; exact HLL.out) S1.out S2.out (Nat.le_refl _)).mono ?_
              rintro e x ⟨l2, rfl, he, hs, ho, hg⟩
              have HE := Lib.hid he
              have HS := Lib.hid hs
              have HO2 := Lib.hid ho
              have HG2 := Lib.hid (HG.out.trans hg)
              clear he hs ho hg
              go_wp2
              have hb := HB.out
              refine ⟨⟨t, l2, ht0, ht1, rfl, HED.out.trans (HE.out.wide (Nat.zero_le _) (Nat.le_refl _)), (HF.out.out HE.out).done HDA.out (HS.out.sub (Nat.le_refl _) (Nat.min_le_right _ _)) (by omega), HO2.out, HG2.out⟩, by simp [intOf]; omega⟩
            ·
              have s1 : Srt (fun x y => cm x y < 0) cur a n := by
                have := HR.out a (by omega) HSA.out
                rw [show min (a + s) n = n by have := HM.out; have := HB.out; have := HT.out; omega] at this
                exact this
              have S1 := Lib.hid s1
              clear s1
              go_wp2
              have hb := HB.out
              refine ⟨⟨t, cur, ht0, ht1, rfl, HED.out, HF.out.done HDA.out (S1.out.sub (Nat.le_refl _) (Nat.min_le_right _ _)) (by omega), HO.out, HG.out⟩, by simp [intOf]; omega⟩
/-- What sorting hands back. -/
def SortingN (cm : Int → Int → Int) (v : Value) (l : List Int) (base : Nat) (w : World) (e : Ending) (w' : World) : Prop := ∃ l' : List Int, e = .returned (.tuple #[]) ∧ l'.Perm l ∧ Srt (fun x y => cm x y < 0) l' 0 l'.length ∧ OwnN w' base v l' ∧ w.grownBy w' v.ownBlock
set_option maxHeartbeats 800000 in
theorem sortStableN_any (v : Value) (l : List Int) (base cb : Nat) (caps : Array Value) (D : Int → Prop) (cm : Int → Int → Int) (w : World) (h : OwnN w base v l) (hcm : ∀ g, v.ownBlock = some g → CmpOk cb caps (fun x : Int => Value.int .i64 x) D cm w g) (hL : Lin D fun x y => cm x y < 0) (hD : All D l) (hl : l.length < 1099511627776) : Calls Tryz.prog 80 #[v, .func (.func cb) #[] caps] w (SortingN cm v l base w) := by
  rcases h.2 with ⟨hv, h0⟩ | ⟨g, c, cur, hv, hb0, hh, hn, hc, hs, ht⟩
  ·
    subst hv
    have hl0 : l = [] := List.eq_nil_of_length_eq_zero h0
    subst hl0
    have H := Lib.hid h
    clear h h0
    go_enter Tryz.func80, Tryz.ntmps80
    go_wp2_with fail
    refine (stableN_nil _ _ w).mono ?_
    rintro e x ⟨rfl, rfl⟩
    go_wp2
    exact bodyPost_ret (results_none rfl _ _ _) rfl ⟨[], rfl, List.Perm.refl _, .short (by simp), H.out, grownBy_same _ _⟩
  ·
    subst hv
    have HC := Lib.hid (hcm g rfl)
    have H := Lib.hid h
    clear h hcm hh hs ht
    go_enter Tryz.func80, Tryz.ntmps80
    go_wp2_with fail
    refine (stableN_any g c base l.length cb caps D cm w HC.out hL l w H.out (grownBy_same _ _) hD hl).mono ?_
    rintro e x ⟨l2, rfl, he, hs, ho, hg⟩
    have HE := Lib.hid he
    have HS := Lib.hid hs
    have HO := Lib.hid ho
    have HG := Lib.hid hg
    clear he hs ho hg
    go_wp2
    exact bodyPost_ret (results_none rfl _ _ _) rfl ⟨l2, rfl, HE.out.perm, by rw [HE.out.len]; exact HS.out, HO.out, HG.out⟩
set_option maxHeartbeats 800000 in
theorem sortedN_any (v : Value) (l : List Int) (base cb : Nat) (caps : Array Value) (D : Int → Prop) (cm : Int → Int → Int) (w : World) (h : OwnN w base v l) (hcm : ∀ g, v.ownBlock = some g → CmpOk cb caps (fun x : Int => Value.int .i64 x) D cm w g) (hL : Lin D fun x y => cm x y < 0) (hD : All D l) (hl : l.length < 1099511627776) : Calls Tryz.prog 54 #[v, .func (.func cb) #[] caps] w (SortingN cm v l base w) := by
  go_enter Tryz.func54, Tryz.ntmps54
  go_wp2_with fail
  refine (sortStableN_any v l base cb caps D cm w h hcm hL hD hl).mono ?_
  rintro e x ⟨l2, rfl, h1, h2, h3, h4⟩
  have H1 := Lib.hid h1
  have H2 := Lib.hid h2
  have H3 := Lib.hid h3
  have H4 := Lib.hid h4
  clear h1 h2 h3 h4
  go_wp2
  exact bodyPost_ret (results_none rfl _ _ _) rfl ⟨l2, rfl, H1.out, H2.out, H3.out, H4.out⟩
end Go.Proofs.YtlglfcdobbocnaaGreat
