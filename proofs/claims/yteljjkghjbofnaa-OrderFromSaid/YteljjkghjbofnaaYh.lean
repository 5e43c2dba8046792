/- ref.has, ref.arc, ref.near, ref.ready, ref.ordered, ref.CheckOrder. -/
import Derived.Test.YteljjkghjbofnaaYb
set_option maxRecDepth 100000
namespace Go.Proofs.Yteljjkghjbofnaa
open Go Go.Proofs Go.RowKit
attribute [local go_sem] Oper.semAt_some

theorem not_mem_take_succ {α : Type} {l : List α} {k : Nat} {x : α} (hk : k < l.length) (h : x ∉ l.take k) (hx : l[k] ≠ x) : x ∉ l.take (k + 1) := by
  rw [List.take_succ_eq_append_getElem hk, List.mem_append]
  rintro (h1 | h1)
  · exact h h1
  · simp at h1; exact hx h1.symm

set_option maxHeartbeats 400000 in
theorem Rhas_any (l : List Int) (lo : Option Addr) (c : Nat) (x : Int) (w : World) (hl : Ints w lo l) (hll : l.length < 1152921504606846976) :
    Calls Try.prog 100 #[.slice lo l.length c, .int .i64 x] w (Tells (.bool (decide (x ∈ l))) w) := by
  have HL := Lib.hid hl
  clear hl
  obtain ⟨r, hr⟩ : ∃ r, decide (x ∈ l) = r := ⟨_, rfl⟩
  rw [hr]
  have HR := Lib.hid hr
  clear hr
  go_enter Try.func100, Try.ntmps100
  go_wp2
  go_loop [5] (fun i => ∃ k : Nat, k ≤ l.length ∧ i = .int .i64 k ∧ x ∉ l.take k) (fun i => l.length - (intOf i).toNat)
  case atStart => exact ⟨0, Nat.zero_le _, rfl, by simp⟩
  case round =>
    obtain ⟨k, hk, rfl, hn⟩ := hrel
    have HN := Lib.hid hn
    clear hn
    by_cases hlt : k < l.length
    · obtain ⟨B, off, rfl, hc⟩ := HL.out k hlt
      have HS : Hid (l[k] ≠ x → x ∉ l.take (k + 1)) := Lib.hid (not_mem_take_succ hlt HN.out)
      have HY : Hid (l[k] = x → true = r) := Lib.hid fun h => by rw [← HR.out, ← h]; exact (decide_eq_true (List.getElem_mem hlt)).symm
      generalize l[k] = y at *
      by_cases hy : y = x
      · have hb : (y == x) = true := by simp [hy]
        have HY2 := Lib.hid (HY.out hy)
        clear hy
        go_wp2
        go_ret
        exact ⟨ret_bool HY2.out, rfl⟩
      · have hb : (y == x) = false := by simp [hy]
        have HS2 := Lib.hid (HS.out hy)
        clear hy
        go_wp2
        go_round
        case measure => simp [intOf]; omega
        case rel => exact ⟨k + 1, by omega, by go_num, HS2.out⟩
    · have hk2 : k = l.length := by omega
      have HX : Hid (false = r) := Lib.hid (by rw [← HR.out]; have := HN.out; rw [hk2, List.take_length] at this; exact (decide_eq_false this).symm)
      clear hk2
      go_wp2
      go_ret
      exact ⟨ret_bool HX.out, rfl⟩

set_option maxHeartbeats 800000 in
theorem Rarc_any (o : Prob) (ao bo : Option Addr) (ca cb : Nat) (a b : Int) (w : World) (ho : IsProb w o ao bo) :
    Calls Try.prog 101 #[probV o ao ca bo cb, .int .i64 a, .int .i64 b] w (Gives (.bool (arcR o a b)) w) := by
  have HO := Lib.hid ho
  have hla := ho.la
  clear ho
  obtain ⟨r, hr⟩ : ∃ r, arcR o a b = r := ⟨_, rfl⟩
  rw [hr]
  have HR := Lib.hid hr
  clear hr
  go_enter Try.func101, Try.ntmps101
  go_wp2_with fail
  obtain ⟨w0, e0, hk0, hb0, -⟩ := alloc_prob w o.N o.arcs o.near ao ca bo cb
  rw [e0]
  clear e0
  have HK0 := Lib.hid hk0
  clear hk0
  obtain ⟨q0, q1, q2⟩ := hb0
  have qb := lt_of_cell q0
  go_wp2
  go_loop [7] (fun i => ∃ k : Nat, k ≤ o.arcs.length ∧ i = .int .i64 k ∧ (a, b) ∉ o.arcs.take k) (fun i => o.arcs.length - (intOf i).toNat)
  case atStart => exact ⟨0, Nat.zero_le _, rfl, by simp⟩
  case round =>
    obtain ⟨k, hk, rfl, hn⟩ := hrel
    have HN := Lib.hid hn
    clear hn
    by_cases hlt : k < o.arcs.length
    · obtain ⟨B, off, rfl, hc, hd⟩ := (HO.out.kept HK0.out).arcs k hlt
      have HS : Hid (o.arcs[k] ≠ (a, b) → (a, b) ∉ o.arcs.take (k + 1)) := Lib.hid (not_mem_take_succ hlt HN.out)
      have HY : Hid (o.arcs[k] = (a, b) → true = r) := Lib.hid fun h => by rw [← HR.out]; unfold arcR; rw [← h]; exact (decide_eq_true (List.getElem_mem hlt)).symm
      generalize o.arcs[k] = z at *
      obtain ⟨x, y⟩ := z
      simp only at hc hd
      by_cases hy : x = a ∧ y = b
      · obtain ⟨rfl, rfl⟩ := hy
        have HY2 := Lib.hid (HY.out rfl)
        go_wp2
        go_ret
        exact ⟨ret_bool HY2.out, HK0.out⟩
      · have HS2 := Lib.hid (HS.out (fun h => hy (by simpa using h)))
        have hb : (x == a && y == b) = false := by
          cases h1 : (x == a && y == b)
          · rfl
          · simp at h1; exact absurd h1 hy
        go_wp2
        all_goals first
          | (exfalso; exact hy ⟨by assumption, by assumption⟩)
          | (go_round
             case measure => simp [intOf]; omega
             case rel => exact ⟨k + 1, by omega, by go_num, HS2.out⟩)
    · have hk2 : k = o.arcs.length := by omega
      have HX : Hid (false = r) := Lib.hid (by rw [← HR.out]; have := HN.out; rw [hk2, List.take_length] at this; exact (decide_eq_false this).symm)
      clear hk2
      go_wp2
      go_ret
      exact ⟨ret_bool HX.out, HK0.out⟩
set_option maxHeartbeats 800000 in
theorem Rnear_any (o : Prob) (ao bo : Option Addr) (ca cb : Nat) (a b : Int) (w : World) (ho : IsProb w o ao bo) :
    Calls Try.prog 108 #[probV o ao ca bo cb, .int .i64 a, .int .i64 b] w (Gives (.bool (nearR o a b)) w) := by
  have HO := Lib.hid ho
  have hla := ho.lb
  clear ho
  obtain ⟨r, hr⟩ : ∃ r, nearR o a b = r := ⟨_, rfl⟩
  rw [hr]
  have HR := Lib.hid hr
  clear hr
  go_enter Try.func108, Try.ntmps108
  go_wp2_with fail
  obtain ⟨w0, e0, hk0, hb0, -⟩ := alloc_prob w o.N o.arcs o.near ao ca bo cb
  rw [e0]
  clear e0
  have HK0 := Lib.hid hk0
  clear hk0
  obtain ⟨q0, q1, q2⟩ := hb0
  have qb := lt_of_cell q0
  go_wp2
  go_loop [7] (fun i => ∃ k : Nat, k ≤ o.near.length ∧ i = .int .i64 k ∧ (min a b, max a b) ∉ o.near.take k) (fun i => o.near.length - (intOf i).toNat)
  case atStart => exact ⟨0, Nat.zero_le _, rfl, by simp⟩
  case round =>
    obtain ⟨k, hk, rfl, hn⟩ := hrel
    have HN := Lib.hid hn
    clear hn
    by_cases hlt : k < o.near.length
    · obtain ⟨B, off, rfl, hc, hd⟩ := (HO.out.kept HK0.out).near k hlt
      have HS : Hid (o.near[k] ≠ (min a b, max a b) → (min a b, max a b) ∉ o.near.take (k + 1)) := Lib.hid (not_mem_take_succ hlt HN.out)
      have HY : Hid (o.near[k] = (min a b, max a b) → true = r) := Lib.hid fun h => by rw [← HR.out]; unfold nearR; rw [← h]; exact (decide_eq_true (List.getElem_mem hlt)).symm
      generalize o.near[k] = z at *
      obtain ⟨x, y⟩ := z
      simp only at hc hd
      obtain ⟨mn, hmn⟩ : ∃ mn, min a b = mn := ⟨_, rfl⟩
      obtain ⟨mx, hmx⟩ : ∃ mx, max a b = mx := ⟨_, rfl⟩
      rw [hmn, hmx] at HS HY
      have HMN := Lib.hid hmn
      have HMX := Lib.hid hmx
      have hmin : (if b < a then b else a) = mn := by rw [← hmn]; split <;> omega
      have hmax : (if a < b then b else a) = mx := by rw [← hmx]; split <;> omega
      clear hmn hmx
      by_cases hy : x = mn ∧ y = mx
      · obtain ⟨rfl, rfl⟩ := hy
        have HY2 := Lib.hid (HY.out rfl)
        go_wp2
        go_ret
        exact ⟨ret_bool HY2.out, HK0.out⟩
      · have HS2 := Lib.hid (HS.out (fun h => hy (by simpa using h)))
        have hb : (x == mn && y == mx) = false := by
          cases h1 : (x == mn && y == mx)
          · rfl
          · simp at h1; exact absurd h1 hy
        go_wp2
        all_goals first
          | (exfalso; exact hy ⟨by assumption, by assumption⟩)
          | (go_round
             case measure => simp [intOf]; omega
             case rel => exact ⟨k + 1, by omega, by go_num, by rw [HMN.out, HMX.out]; exact HS2.out⟩)
    · have hk2 : k = o.near.length := by omega
      have HX : Hid (false = r) := Lib.hid (by rw [← HR.out]; have := HN.out; rw [hk2, List.take_length] at this; exact (decide_eq_false this).symm)
      clear hk2
      go_wp2
      go_ret
      exact ⟨ret_bool HX.out, HK0.out⟩

theorem readyR_iff {o : Prob} {l : List Int} {a : Int} : readyR o l a = true ↔ a ∉ l ∧ ∀ i, (h : i < o.arcs.length) → (o.arcs[i]).2 = a → (o.arcs[i]).1 ∈ l := by
  unfold readyR
  simp only [Bool.and_eq_true, Bool.not_eq_true', decide_eq_false_iff_not, List.all_eq_true, Bool.or_eq_true, decide_eq_true_eq]
  refine and_congr Iff.rfl ⟨fun h i hi e => (h _ (List.getElem_mem hi)).resolve_left (fun h2 => h2 e), fun h x hx => ?_⟩
  obtain ⟨i, hi, rfl⟩ := List.getElem_of_mem hx
  by_cases e : (o.arcs[i]).2 = a
  · exact .inr (h i hi e)
  · exact .inl e

set_option maxHeartbeats 800000 in
theorem Rready_any (o : Prob) (ao bo : Option Addr) (ca cb : Nat) (l : List Int) (lo : Option Addr) (c : Nat) (a : Int) (w : World) (ho : IsProb w o ao bo) (hl : Ints w lo l) (hll : l.length < 1152921504606846976) :
    Calls Try.prog 109 #[probV o ao ca bo cb, .slice lo l.length c, .int .i64 a] w (Gives (.bool (readyR o l a)) w) := by
  have HO := Lib.hid ho
  have HL := Lib.hid hl
  have hla := ho.la
  clear ho hl
  obtain ⟨r, hr⟩ : ∃ r, readyR o l a = r := ⟨_, rfl⟩
  rw [hr]
  have HR := Lib.hid hr
  clear hr
  go_enter Try.func109, Try.ntmps109
  go_wp2_with fail
  obtain ⟨w0, e0, hk0, hb0, -⟩ := alloc_prob w o.N o.arcs o.near ao ca bo cb
  rw [e0]
  clear e0
  have HK0 := Lib.hid hk0
  clear hk0
  obtain ⟨q0, q1, q2⟩ := hb0
  have qb := lt_of_cell q0
  refine (Rhas_any l lo c a w0 (HL.out.kept HK0.out) hll).mono ?_
  rintro e w1 ⟨rfl, rfl⟩
  by_cases hm : a ∈ l
  · have hd : decide (a ∈ l) = true := decide_eq_true hm
    have HX : Hid (false = r) := Lib.hid (by rw [← HR.out]; unfold readyR; rw [hd]; rfl)
    rw [hd]
    clear hm hd
    go_wp2
    go_ret
    exact ⟨ret_bool HX.out, HK0.out⟩
  · have hd : decide (a ∈ l) = false := decide_eq_false hm
    have HM := Lib.hid hm
    rw [hd]
    clear hm hd
    go_wp2
    go_loop [7] (fun i => ∃ k : Nat, k ≤ o.arcs.length ∧ i = .int .i64 k ∧ ∀ i, (h : i < o.arcs.length) → i < k → (o.arcs[i]).2 = a → (o.arcs[i]).1 ∈ l) (fun i => o.arcs.length - (intOf i).toNat)
    case atStart => exact ⟨0, Nat.zero_le _, rfl, fun i h h2 => by omega⟩
    case round =>
      obtain ⟨k, hk, rfl, hn⟩ := hrel
      have HN := Lib.hid hn
      clear hn
      by_cases hlt : k < o.arcs.length
      · obtain ⟨B, off, rfl, hc, hd⟩ := (HO.out.kept HK0.out).arcs k hlt
        have HS : Hid (((o.arcs[k]).2 = a → (o.arcs[k]).1 ∈ l) → ∀ i, (h : i < o.arcs.length) → i < k + 1 → (o.arcs[i]).2 = a → (o.arcs[i]).1 ∈ l) := Lib.hid fun h i hi hik => by
          rcases Nat.lt_or_eq_of_le (Nat.lt_succ_iff.1 hik) with h2 | rfl
          · exact HN.out i hi h2
          · exact h
        have HY : Hid ((o.arcs[k]).2 = a → (o.arcs[k]).1 ∉ l → false = r) := Lib.hid fun h1 h2 => by
          rw [← HR.out]
          cases hh : readyR o l a
          · rfl
          · exact absurd ((readyR_iff.1 hh).2 k hlt h1) h2
        generalize o.arcs[k] = z at *
        obtain ⟨x, y⟩ := z
        simp only at hc hd HS HY
        by_cases hy : y = a
        · have hb : (y == a) = true := by simp [hy]
          have HS2 : Hid (x ∈ l → _) := Lib.hid fun h => HS.out fun _ => h
          have HY2 := Lib.hid (HY.out hy)
          clear hy HS HY
          go_wp2_with fail
          refine (Rhas_any l lo c x w0 (HL.out.kept HK0.out) hll).mono ?_
          rintro e w1 ⟨rfl, rfl⟩
          by_cases hm : x ∈ l
          · have hd : decide (x ∈ l) = true := decide_eq_true hm
            have HS3 := Lib.hid (HS2.out hm)
            rw [hd]
            clear hm hd
            go_wp2
            go_round
            case measure => simp [intOf]; omega
            case rel => exact ⟨k + 1, by omega, by go_num, HS3.out⟩
          · have hd : decide (x ∈ l) = false := decide_eq_false hm
            have HX := Lib.hid (HY2.out hm)
            rw [hd]
            clear hm hd
            go_wp2
            go_ret
            exact ⟨ret_bool HX.out, HK0.out⟩
        · have hb : (y == a) = false := by simp [hy]
          have HS3 := Lib.hid (HS.out (fun h => absurd h hy))
          clear hy HS HY
          go_wp2
          go_round
          case measure => simp [intOf]; omega
          case rel => exact ⟨k + 1, by omega, by go_num, HS3.out⟩
      · have hk2 : k = o.arcs.length := by omega
        have HX : Hid (true = r) := Lib.hid (by rw [← HR.out]; exact (readyR_iff.2 ⟨HM.out, fun i h => HN.out i h (by omega)⟩).symm)
        clear hk2
        go_wp2
        go_ret
        exact ⟨ret_bool HX.out, HK0.out⟩

theorem orderedR_iff {o : Prob} {l : List Int} : orderedR o l = true ↔ (l.length : Int) = o.N ∧ ∀ i, (h : i < l.length) → 0 ≤ l[i] ∧ l[i] < o.N ∧ readyR o (l.take i) l[i] = true := by
  unfold orderedR
  simp only [Bool.and_eq_true, decide_eq_true_eq, List.all_eq_true, List.mem_range]
  refine and_congr Iff.rfl ⟨fun h i hi => ?_, fun h i hi => ?_⟩
  · have := h i hi
    rw [getD_mem hi] at this
    exact ⟨this.1.1, this.1.2, this.2⟩
  · have := h i hi
    rw [getD_mem hi]
    exact ⟨⟨this.1, this.2.1⟩, this.2.2⟩

set_option maxHeartbeats 1600000 in
theorem Rordered_any (o : Prob) (ao bo : Option Addr) (ca cb : Nat) (l : List Int) (lo : Option Addr) (c : Nat) (w : World) (ho : IsProb w o ao bo) (hl : Ints w lo l) (hll : l.length < 1152921504606846976) (hlc : l.length ≤ c) :
    Calls Try.prog 110 #[probV o ao ca bo cb, .slice lo l.length c] w (Gives (.bool (orderedR o l)) w) := by
  have HO := Lib.hid ho
  have HL := Lib.hid hl
  clear ho hl
  obtain ⟨r, hr⟩ : ∃ r, orderedR o l = r := ⟨_, rfl⟩
  rw [hr]
  have HR := Lib.hid hr
  clear hr
  by_cases hN : (l.length : Int) = o.N
  · have hb : ((l.length : Int) != o.N) = false := by simp [hN]
    have HN := Lib.hid hN
    clear hN
    go_enter Try.func110, Try.ntmps110
    go_wp2_with fail
    obtain ⟨w0, e0, hk0, hb0, -⟩ := alloc_prob w o.N o.arcs o.near ao ca bo cb
    rw [e0]
    clear e0
    have HK0 := Lib.hid hk0
    have HB0 := Lib.hid hb0
    clear hk0
    obtain ⟨q0, q1, q2⟩ := hb0
    have qb := lt_of_cell q0
    go_wp2
    clear q0 q1 q2 qb
    go_loopw [5] (fun i wr => ∃ k : Nat, k ≤ l.length ∧ i = .int .i64 k ∧ (∀ i, (h : i < l.length) → i < k → 0 ≤ l[i] ∧ l[i] < o.N ∧ readyR o (l.take i) l[i] = true) ∧ ProbBox wr w.heap.size o ao ca bo cb ∧ Kept w wr) (fun i _ => l.length - (intOf i).toNat)
    case atStart => exact ⟨0, Nat.zero_le _, rfl, fun i h h2 => by omega, HB0.out, HK0.out⟩
    case round =>
      obtain ⟨k, hk, rfl, hn, hb1, hkw⟩ := hrel
      have HNN := Lib.hid hn
      have HKW := Lib.hid hkw
      have HB1 := Lib.hid hb1
      clear hn hkw
      obtain ⟨q0, q1, q2⟩ := hb1
      have qb := lt_of_cell q0
      by_cases hlt : k < l.length
      · obtain ⟨B, off, rfl, hc⟩ := (HL.out.kept HKW.out) k hlt
        have HS : Hid ((0 ≤ l[k] ∧ l[k] < o.N ∧ readyR o (l.take k) l[k] = true) → ∀ i, (h : i < l.length) → i < k + 1 → 0 ≤ l[i] ∧ l[i] < o.N ∧ readyR o (l.take i) l[i] = true) := Lib.hid fun h i hi hik => by
          rcases Nat.lt_or_eq_of_le (Nat.lt_succ_iff.1 hik) with h2 | rfl
          · exact HNN.out i hi h2
          · exact h
        have HY : Hid (¬ (0 ≤ l[k] ∧ l[k] < o.N ∧ readyR o (l.take k) l[k] = true) → false = r) := Lib.hid fun h => by
          rw [← HR.out]
          cases hh : orderedR o l
          · rfl
          · exact absurd ((orderedR_iff.1 hh).2 k hlt) h
        have hki : (k : Int) ≤ (c : Int) := by omega
        have hkc : k ≤ c := by omega
        have hlt2 : (l.take k).length = k := by simp; omega
        have HT := Lib.hid hlt2
        clear hlt2
        generalize l[k] = x at *
        by_cases h1 : 0 ≤ x
        · by_cases h2 : x < o.N
          · have HP : Hid (0 ≤ x ∧ x < o.N) := Lib.hid ⟨h1, h2⟩
            go_wp2
            refine region_tail 23 (by kernel_rfl) (by kernel_rfl) ?_
            simp only [List.take_succ_cons, List.take_zero, List.drop_succ_cons, List.drop_zero]
            iterate 23
              with_reducible refine wpStill_want ?_ (fun K hK => ?_)
              · rfl
              go_simp
              refine hK _ ?_
              clear hK K
            with_reducible refine wpStill_nil ?_
            go_wp2_with fail
            have hF := Rready_any o ao bo ca cb (l.take k) (some ⟨B, off, none⟩) c x wr.drew ((HO.out.kept HKW.out).kept (Kept.refl _).drew) (((HL.out.kept HKW.out).kept (Kept.refl _).drew).take k) (by rw [HT.out]; omega)
            rw [HT.out] at hF
            refine hF.mono ?_
            clear hF
            rintro e w2 ⟨rfl, hk2⟩
            have HK2 := Lib.hid ((HKW.out.drew).trans hk2)
            have HB2 := Lib.hid ((HB1.out.kept (Kept.refl _).drew).kept hk2)
            clear hk2 q0 q1 q2 qb hc
            cases hrr : readyR o (l.take k) x
            · have HX : Hid (false = r) := Lib.hid (HY.out fun h => by rw [hrr] at h; exact absurd h.2.2 (by simp))
              clear hrr
              go_wp2
              go_ret
              exact ⟨ret_bool HX.out, HK2.out⟩
            · have HS2 := Lib.hid (HS.out ⟨HP.out.1, HP.out.2, hrr⟩)
              clear hrr
              go_wp2
              go_roundw
              case measure => simp [intOf]; omega
              case rel => exact ⟨k + 1, by omega, by go_num, HS2.out, HB2.out, HK2.out⟩
          · have HX : Hid (false = r) := Lib.hid (HY.out fun h => h2 h.2.1)
            have e2 : decide (x < o.N) = false := decide_eq_false h2
            go_wp2
            refine region_tail 25 (by kernel_rfl) (by kernel_rfl) ?_
            simp only [List.take_succ_cons, List.take_zero, List.drop_succ_cons, List.drop_zero]
            iterate 15
              with_reducible refine wpStill_want ?_ (fun K hK => ?_)
              · rfl
              go_simp
              refine hK _ ?_
              clear hK K
            iterate 9
              with_reducible refine wpStill_skip ?_ ?_
              · rfl
              simp only [Act.put, List.setIfInBounds_toArray, List.set_cons_zero, List.set_cons_succ]
            iterate 1
              with_reducible refine wpStill_want ?_ (fun K hK => ?_)
              · rfl
              go_simp
              refine hK _ ?_
              clear hK K
            with_reducible refine wpStill_nil ?_
            go_wp2
            go_ret
            exact ⟨ret_bool HX.out, HKW.out.drew⟩
        · have HX : Hid (false = r) := Lib.hid (HY.out fun h => h1 h.1)
          have e1 : decide (0 ≤ x) = false := decide_eq_false h1
          go_wp2
          refine region_tail 25 (by kernel_rfl) (by kernel_rfl) ?_
          simp only [List.take_succ_cons, List.take_zero, List.drop_succ_cons, List.drop_zero]
          iterate 6
            with_reducible refine wpStill_want ?_ (fun K hK => ?_)
            · rfl
            go_simp
            refine hK _ ?_
            clear hK K
          iterate 7
            with_reducible refine wpStill_skip ?_ ?_
            · rfl
            simp only [Act.put, List.setIfInBounds_toArray, List.set_cons_zero, List.set_cons_succ]
          iterate 2
            with_reducible refine wpStill_want ?_ (fun K hK => ?_)
            · rfl
            go_simp
            refine hK _ ?_
            clear hK K
          iterate 9
            with_reducible refine wpStill_skip ?_ ?_
            · rfl
            simp only [Act.put, List.setIfInBounds_toArray, List.set_cons_zero, List.set_cons_succ]
          iterate 1
            with_reducible refine wpStill_want ?_ (fun K hK => ?_)
            · rfl
            go_simp
            refine hK _ ?_
            clear hK K
          with_reducible refine wpStill_nil ?_
          go_wp2
          go_ret
          exact ⟨ret_bool HX.out, HKW.out.drew⟩
      · have hk2 : k = l.length := by omega
        have HX : Hid (true = r) := Lib.hid (by rw [← HR.out]; exact (orderedR_iff.2 ⟨HN.out, fun i h => HNN.out i h (by omega)⟩).symm)
        clear hk2
        go_wp2
        go_ret
        exact ⟨ret_bool HX.out, HKW.out⟩
  · have hb : ((l.length : Int) != o.N) = true := by simp [hN]
    have HX : Hid (false = r) := Lib.hid (by
      rw [← HR.out]
      cases hh : orderedR o l
      · rfl
      · exact absurd (orderedR_iff.1 hh).1 hN)
    clear hN
    go_enter Try.func110, Try.ntmps110
    go_wp2_with fail
    obtain ⟨w0, e0, hk0, hb0, -⟩ := alloc_prob w o.N o.arcs o.near ao ca bo cb
    rw [e0]
    clear e0
    have HK0 := Lib.hid hk0
    have HB0 := Lib.hid hb0
    clear hk0
    obtain ⟨q0, q1, q2⟩ := hb0
    have qb := lt_of_cell q0
    go_wp2
    go_ret
    exact ⟨ret_bool HX.out, HK0.out⟩

set_option maxHeartbeats 400000 in
theorem RCheckOrder_any (o : Prob) (ao bo : Option Addr) (ca cb : Nat) (l : List Int) (lo : Option Addr) (c : Nat) (w : World) (ho : IsProb w o ao bo) (hl : Ints w lo l) (hll : l.length < 1152921504606846976) (hlc : l.length ≤ c) :
    Calls Try.prog 46 #[probV o ao ca bo cb, .slice lo l.length c] w (Gives (.tuple #[.bool (if chk o = 0 then orderedB (webOf o) l else false), .int .i64 (chk o)]) w) := by
  have HO := Lib.hid ho
  have HL := Lib.hid hl
  clear ho hl
  obtain ⟨r, hr⟩ : ∃ r, (if chk o = 0 then orderedB (webOf o) l else false) = r := ⟨_, rfl⟩
  rw [hr]
  have HR := Lib.hid hr
  clear hr
  obtain ⟨er, her⟩ : ∃ er, chk o = er := ⟨_, rfl⟩
  rw [her]
  have HE := Lib.hid her
  go_enter Try.func46, Try.ntmps46
  go_wp2_with fail
  obtain ⟨w0, e0, hk0, hb0, -⟩ := alloc_prob w o.N o.arcs o.near ao ca bo cb
  rw [e0]
  clear e0
  have HK0 := Lib.hid hk0
  have HB0 := Lib.hid hb0
  clear hk0
  obtain ⟨q0, q1, q2⟩ := hb0
  have qb := lt_of_cell q0
  go_wp2_with fail
  clear q0 q1 q2 qb
  refine (RCheck_any o ao bo ca cb w0 (HO.out.kept HK0.out)).mono ?_
  rintro e w1 ⟨rfl, hk1⟩
  have HK1 := Lib.hid (HK0.out.trans hk1)
  obtain ⟨q0, q1, q2⟩ := HB0.out.kept hk1
  have qb := lt_of_cell q0
  clear hk1
  rw [her]
  by_cases hc : er = 0
  · have HX : Hid (orderedR o l = r) := Lib.hid (by rw [← HR.out, if_pos (her.trans hc)]; exact orderedR_eq (her.trans hc) l)
    subst hc
    clear her
    go_wp2_with fail
    clear q0 q1 q2 qb
    have hF := Rordered_any o ao bo ca cb l lo c w1 (HO.out.kept HK1.out) (HL.out.kept HK1.out) hll hlc
    rw [HX.out] at hF
    refine hF.mono ?_
    clear hF
    rintro e w2 ⟨rfl, hk2⟩
    have HK2 := Lib.hid (HK1.out.trans hk2)
    clear hk2
    go_wp2
    go_ret2
    exact ⟨rfl, HK2.out⟩
  · have HX : Hid (false = r) := Lib.hid (by rw [← HR.out, if_neg (fun h => hc (her.symm.trans h))])
    have hb : (er != 0) = true := by simp [hc]
    clear hc her
    go_wp2
    go_ret2
    exact ⟨by rw [← HX.out]; rfl, HK1.out⟩
end Go.Proofs.Yteljjkghjbofnaa
