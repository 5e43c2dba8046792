/- ref.members, ref.less. -/
import Derived.Test.YteljjkghjbofnaaWa
import Derived.Test.YteljjkghjbofnaaTw
set_option maxRecDepth 100000
namespace Go.Proofs.Yteljjkghjbofnaa
open Go Go.Proofs Go.RowKit
attribute [local go_sem] Oper.semAt_some

def toI (l : List Nat) : List Int := l.map fun i : Nat => (i : Int)
theorem toI_len (l : List Nat) : (toI l).length = l.length := by simp [toI]
theorem toI_get (l : List Nat) (i : Nat) (h : i < (toI l).length) : (toI l)[i] = ((l[i]'(by rw [toI_len] at h; exact h) : Nat) : Int) := by simp [toI]
theorem membs_yes {a s : Nat} (h : hasS (BitVec.ofNat 32 s) a = true) : toI (membs (a + 1) s) = toI (membs a s) ++ [(a : Int)] := by
  unfold toI membs
  rw [List.range_succ, List.filter_append, List.filter_cons, if_pos h, List.map_append]; rfl
theorem membs_no {a s : Nat} (h : hasS (BitVec.ofNat 32 s) a = false) : toI (membs (a + 1) s) = toI (membs a s) := by
  unfold toI membs
  rw [List.range_succ, List.filter_append, List.filter_cons, if_neg (by rw [h]; simp)]; simp
theorem membs_stop {a m s : Nat} (hm : m ≤ 32) (ham : a ≤ m) (hs : s < 2 ^ a) : membs m s = membs a s := by
  unfold membs
  have e : List.range m = List.range a ++ (List.range (m - a)).map (a + ·) := by rw [← List.range_add]; congr 1; omega
  have e3 : ((List.range (m - a)).map (a + ·)).filter (fun i => hasS (BitVec.ofNat 32 s) i) = [] := by
   rw [List.filter_eq_nil_iff]
   intro x hx
   obtain ⟨q, hq, rfl⟩ := List.mem_map.1 hx
   have hq := List.mem_range.1 hq
   rw [has_ofNat (by omega), Nat.testBit_lt_two_pow (Nat.lt_of_lt_of_le hs (Nat.pow_le_pow_right (by decide) (by omega)))]
   simp
  rw [e, List.filter_append, e3, List.append_nil]
theorem membs_len (a s : Nat) : (membs a s).length ≤ a := by
  unfold membs
  have := List.length_filter_le (fun i => hasS (BitVec.ofNat 32 s) i) (List.range a)
  simpa using this

set_option maxHeartbeats 1000000 in
theorem Rmembs_any (m s : Nat) (hm : m ≤ 12) (hs : s < 2 ^ m) (w : World) :
    Calls Try.prog 122 #[.int .i64 s] w (fun e w' => ∃ v, e = .returned v ∧ NewI w w' v (toI (membs m s)) ∧ Kept w w') := by
  have hs4 : s < 4096 := Nat.lt_of_lt_of_le hs (Nat.pow_le_pow_right (by decide) hm)
  have HS := Lib.hid hs
  clear hs
  go_enter Try.func122, Try.ntmps122
  go_wp2
  go_loopw [3, 4] (fun v i wr => ∃ a : Nat, a ≤ m ∧ i = .int .i64 a ∧ OwnI wr w.heap.size v (toI (membs a s)) ∧ Kept w wr) (fun _ i _ => m - (intOf i).toNat)
  case atStart => exact ⟨0, Nat.zero_le _, rfl, OwnI.nil _ _, Kept.refl _⟩
  case round =>
    obtain ⟨a, ha, rfl, hown, hkw⟩ := hrel
    have HO := Lib.hid hown
    have HKW := Lib.hid hkw
    clear hown hkw
    have ha12 : a ≤ 12 := by omega
    have e2 : ((s : Int) / 2 ^ a) = ((s / 2 ^ a : Nat) : Int) := by simp
    by_cases hz : s / 2 ^ a = 0
    · have HE : Hid (membs m s = membs a s) := Lib.hid (membs_stop (by omega) ha (by
        have := (Nat.div_eq_zero_iff).1 hz
        rcases this with h | h
        · have := Nat.two_pow_pos a; omega
        · exact h))
      have e1 : decide ((s : Int) / 2 ^ a > 0) = false := by rw [e2, hz]; rfl
      have e3 : decide (0 < s / 2 ^ a) = false := by rw [hz]; rfl
      clear hz e2
      go_wp2
      go_ret
      rw [HE.out]
      exact ⟨_, rfl, HO.out.new, HKW.out⟩
    · have hpos : 0 < s / 2 ^ a := Nat.pos_of_ne_zero hz
      have e1 : decide ((s : Int) / 2 ^ a > 0) = true := by rw [e2]; exact decide_eq_true (Int.natCast_pos.2 hpos)
      have e3 : decide (0 < s / 2 ^ a) = true := decide_eq_true hpos
      have HAM : Hid (a < m) := Lib.hid (by
        rcases Nat.lt_or_eq_of_le ha with h | h
        · exact h
        · subst h
          rw [Nat.div_eq_of_lt HS.out] at hpos
          omega)
      have hbi := bit_is s a hs4
      obtain ⟨ao, c, rfl, -, -⟩ := HO.out.slice
      have hlen : (toI (membs a s)).length ≤ 12 := by rw [toI_len]; exact Nat.le_trans (membs_len a s) ha12
      clear hz e2 hpos
      cases hb : hasS (BitVec.ofNat 32 s) a
      · rw [hb] at hbi
        have HN := Lib.hid (membs_no hb)
        clear hb
        go_wp2
        go_roundw
        case measure => have := HAM.out; simp [intOf] <;> omega
        case rel => exact ⟨a + 1, HAM.out, by go_num, by rw [HN.out]; exact HO.out, HKW.out⟩
      · rw [hb] at hbi
        have HN := Lib.hid (membs_yes hb)
        clear hb
        go_wp2_with (at_builtin; refine append_int _ rfl _ _ rfl w.heap.size (.slice ao (toI (membs a s)).length c) (toI (membs a s)) rfl (HO.out.kept ((Kept.refl _).alloc _)) wr.heap.size 1 (a : Int) rfl (by simp [go_sem]) (by omega) (by have := HKW.out.size; simp; omega) ?_; intro g' c' w4 hown4 hg4; have HO4 := Lib.hid hown4; have HK4 := Lib.hid ((HKW.out.alloc _).grown hg4 (fun r e => (HO.out.lt r e).1)); clear hown4 hg4)
        go_roundw
        case measure => have := HAM.out; simp [intOf] <;> omega
        case rel => exact ⟨a + 1, HAM.out, by go_num, by rw [HN.out]; exact HO4.out, HK4.out⟩

theorem lessB_at {s t : List Nat} {i : Nat} (h1 : i < s.length) (h2 : i < t.length) (he : s.take i = t.take i) (hne : s[i] ≠ t[i]) : lessB s t = decide (s[i] < t[i]) := by
  have e1 : s = s.take i ++ s[i] :: s.drop (i + 1) := by rw [List.getElem_cons_drop, List.take_append_drop]
  have e2 : t = s.take i ++ t[i] :: t.drop (i + 1) := by rw [he, List.getElem_cons_drop, List.take_append_drop]
  have : lessB s t = lessB (s.take i ++ s[i] :: s.drop (i + 1)) (s.take i ++ t[i] :: t.drop (i + 1)) := by rw [← e1, ← e2]
  rw [this, lessB_app]
  unfold lessB
  rw [if_neg hne]
theorem lessB_end {s t : List Nat} {i : Nat} (he : s.take i = t.take i) (h : s.length ≤ i ∨ t.length ≤ i) : lessB s t = false := by
  have e1 : s = s.take i ++ s.drop i := (List.take_append_drop i s).symm
  have e2 : t = s.take i ++ t.drop i := by rw [he]; exact (List.take_append_drop i t).symm
  have : lessB s t = lessB (s.take i ++ s.drop i) (s.take i ++ t.drop i) := by rw [← e1, ← e2]
  rw [this, lessB_app]
  rcases h with h | h
  · rw [List.drop_eq_nil_of_le h]; unfold lessB; rfl
  · rw [List.drop_eq_nil_of_le h]; unfold lessB; cases s.drop i <;> rfl

set_option maxHeartbeats 1000000 in
theorem Rless_any (s t : List Nat) (sa ta : Option Addr) (sc tc : Nat) (w : World) (hs : Ints w sa (toI s)) (ht : Ints w ta (toI t)) (_hsl : s.length < 100) (_htl : t.length < 100) :
    Calls Try.prog 123 #[.slice sa s.length sc, .slice ta t.length tc] w (Gives (.bool (lessB s t)) w) := by
  have HS := Lib.hid hs
  have HT := Lib.hid ht
  clear hs ht
  obtain ⟨r, hr⟩ : ∃ r, lessB s t = r := ⟨_, rfl⟩
  rw [hr]
  have HR := Lib.hid hr
  clear hr
  go_enter Try.func123, Try.ntmps123
  go_wp2
  go_loopw [5] (fun i wr => ∃ k : Nat, k ≤ s.length ∧ i = .int .i64 k ∧ s.take k = t.take k ∧ Kept w wr) (fun i _ => s.length - (intOf i).toNat)
  case atStart => exact ⟨0, Nat.zero_le _, rfl, rfl, Kept.refl _⟩
  case round =>
    obtain ⟨k, hk, rfl, he, hkw⟩ := hrel
    have HE := Lib.hid he
    have HKW := Lib.hid hkw
    clear he hkw
    by_cases h1 : k < s.length
    · by_cases h2 : k < t.length
      · obtain ⟨B, off, rfl, hc1⟩ := (HS.out.kept HKW.out) k (by rw [toI_len]; exact h1)
        obtain ⟨B', off', rfl, hc2⟩ := (HT.out.kept HKW.out) k (by rw [toI_len]; exact h2)
        rw [toI_get] at hc1 hc2
        have HNX : Hid (s[k] = t[k] → s.take (k + 1) = t.take (k + 1)) := Lib.hid fun e => by
          rw [List.take_succ_eq_append_getElem h1, List.take_succ_eq_append_getElem h2, HE.out, e]
        have HAT : Hid (s[k] ≠ t[k] → decide (s[k] < t[k]) = r) := Lib.hid fun e => by rw [← HR.out, lessB_at h1 h2 HE.out e]
        generalize s[k] = x at *
        generalize t[k] = y at *
        by_cases hxy : x = y
        · subst hxy
          have e1 : ((x : Int) != (x : Int)) = false := by simp
          have HN := Lib.hid (HNX.out rfl)
          clear HNX
          go_wp2
          refine region_tail 8 (by kernel_rfl) (by kernel_rfl) ?_
          simp only [List.take_succ_cons, List.take_zero, List.drop_succ_cons, List.drop_zero]
          iterate 8
            with_reducible refine wpStill_want ?_ (fun K hK => ?_)
            · rfl
            go_simp
            refine hK _ ?_
            clear hK K
          with_reducible refine wpStill_nil ?_
          go_wp2
          go_roundw
          case measure => simp [intOf] <;> omega
          case rel => exact ⟨k + 1, h1, by go_num, HN.out, HKW.out.drew⟩
        · have e1 : ((x : Int) != (y : Int)) = true := by simp; omega
          have HA := Lib.hid (HAT.out hxy)
          clear hxy HNX HAT
          go_wp2
          refine region_tail 8 (by kernel_rfl) (by kernel_rfl) ?_
          simp only [List.take_succ_cons, List.take_zero, List.drop_succ_cons, List.drop_zero]
          iterate 8
            with_reducible refine wpStill_want ?_ (fun K hK => ?_)
            · rfl
            go_simp
            refine hK _ ?_
            clear hK K
          with_reducible refine wpStill_nil ?_
          go_wp2
          refine region_tail 9 (by kernel_rfl) (by kernel_rfl) ?_
          simp only [List.take_succ_cons, List.take_zero, List.drop_succ_cons, List.drop_zero]
          iterate 9
            with_reducible refine wpStill_want ?_ (fun K hK => ?_)
            · rfl
            go_simp
            refine hK _ ?_
            clear hK K
          with_reducible refine wpStill_nil ?_
          go_wp2
          go_ret
          exact ⟨ret_bool HA.out, HKW.out.drew.drew⟩
      · have HX : Hid (false = r) := Lib.hid (by rw [← HR.out, lessB_end HE.out (.inr (by omega))])
        have e1 : decide ((k : Int) < (t.length : Int)) = false := decide_eq_false (by omega)
        go_wp2
        go_ret
        exact ⟨ret_bool HX.out, HKW.out⟩
    · have HX : Hid (false = r) := Lib.hid (by rw [← HR.out, lessB_end HE.out (.inl (by omega))])
      have e1 : decide ((k : Int) < (s.length : Int)) = false := decide_eq_false (by omega)
      go_wp2
      go_ret
      exact ⟨ret_bool HX.out, HKW.out⟩
end Go.Proofs.Yteljjkghjbofnaa
