/- rising[int], slices.Grow and slices.Concat at ints. -/
import Derived.Test.YteljjkghjbofnaaTq
set_option maxRecDepth 100000
namespace Go.Proofs.Yteljjkghjbofnaa
open Go Go.Proofs Go.RowKit
attribute [local go_sem] Oper.semAt_some

/-- Is a list of numbers strictly ascending? -/
def risI (l : List Int) : Bool := (List.range (l.length - 1)).all fun i => decide (l.getD i 0 < l.getD (i + 1) 0)
theorem risI_false {l : List Int} {k : Nat} (h1 : 1 ≤ k) (hk : k < l.length) (h : ¬ l[k - 1] < l[k]) : risI l = false := by
  unfold risI
  rw [List.all_eq_false]
  refine ⟨k - 1, by simp; omega, ?_⟩
  have e : k - 1 + 1 = k := by omega
  simp only [e, List.getD_eq_getElem?_getD]
  rw [List.getElem?_eq_getElem (by omega), List.getElem?_eq_getElem hk]
  simpa using h
theorem risI_true {l : List Int} (h : ∀ i, (h : i + 1 < l.length) → l[i] < l[i + 1]) : risI l = true := by
  unfold risI
  rw [List.all_eq_true]
  intro i hi
  have hi' : i + 1 < l.length := by simp at hi; omega
  simp only [List.getD_eq_getElem?_getD]
  rw [List.getElem?_eq_getElem (by omega), List.getElem?_eq_getElem hi']
  simpa using h i hi'
theorem risI_at {l : List Int} (h : risI l = true) (i : Nat) (hi : i + 1 < l.length) : l[i] < l[i + 1] := by
  unfold risI at h
  rw [List.all_eq_true] at h
  have h2 := h i (by simp; omega)
  simp only [List.getD_eq_getElem?_getD] at h2
  rw [List.getElem?_eq_getElem (by omega), List.getElem?_eq_getElem hi] at h2
  simpa using h2

set_option maxHeartbeats 800000 in
theorem risingI_any (l : List Int) (ao : Option Addr) (c : Nat) (w : World) (hl : l.length < 1152921504606846976) (hp : Ints w ao l) :
    Calls Try.prog 129 #[.slice ao l.length c, .func (.func 130) #[] #[]] w (Gives (.bool (risI l)) w) := by
  go_enter Try.func129, Try.ntmps129
  go_wp2
  go_loopw [5] (fun i wr => ∃ k : Nat, 1 ≤ k ∧ (k ≤ l.length ∨ k = 1) ∧ i = .int .i64 k ∧ (∀ i, (h : i + 1 < l.length) → i + 1 < k → l[i] < l[i + 1]) ∧ Kept w wr) (fun i _ => l.length - (intOf i).toNat)
  case atStart => exact ⟨1, by omega, .inr rfl, rfl, fun i h hk => by omega, Kept.refl w⟩
  case round =>
    obtain ⟨k, hk1, hk, rfl, hn, hkw⟩ := hrel
    have HN := Lib.hid hn
    clear hn
    have HKW := Lib.hid hkw
    clear hkw
    by_cases hlt : k < l.length
    · obtain ⟨j, rfl⟩ : ∃ j, k = j + 1 := ⟨k - 1, by omega⟩
      obtain ⟨B, off, rfl, hc⟩ := (hp.kept HKW.out) (j + 1) hlt
      obtain ⟨B', off', e', hc'⟩ := (hp.kept HKW.out) j (by omega)
      simp only [Option.some.injEq, Addr.mk.injEq] at e'
      obtain ⟨rfl, rfl, -⟩ := e'
      have HP := Lib.hid hp
      clear hp
      clear hk
      have hwj : IntKind.i64.wrap (j : Int) = j := IntWalk.i64_in _ (by omega)
      have hj0 : (j : Int) < (l.length : Int) := by omega
      have hj1 : ((j : Int) + 1).toNat = j + 1 := by omega
      have hj2 : (0 : Int) ≤ (j : Int) + 1 := by omega
      go_wp2
      refine region_tail 10 (by kernel_rfl) (by kernel_rfl) ?_
      simp only [List.take_succ_cons, List.take_zero, List.drop_succ_cons, List.drop_zero]
      repeat still_step
      refine wpStill_nil ?_
      by_cases hcm : cmpI l[j] l[j + 1] < 0
      all_goals
        have hdc : decide (0 ≤ cmpI l[j] l[j + 1]) = decide (¬ cmpI l[j] l[j + 1] < 0) := by simp
        have HCM := Lib.hid hcm
        simp only [hcm] at hdc
        clear hcm
        go_wp2_with fail
        refine (compareInt_any _ _ _).mono ?_
        rintro e w1 ⟨rfl, rfl⟩
      · go_wp2
        go_roundw
        case rel => exact ⟨j + 2, by omega, .inl (by omega), by go_num, fun i h hi => by
          rcases Nat.lt_or_ge (i + 1) (j + 1) with h' | h'
          · exact HN.out i h h'
          · obtain rfl : i = j := by omega
            have h2 := HCM.out
            unfold cmpI at h2
            split at h2
            · assumption
            · split at h2 <;> omega, HKW.out.trans (Kept.refl _).drew⟩
        case measure => simp [intOf]; omega
      · go_wp2
        go_ret
        exact ⟨ret_bool (risI_false (k := j + 1) (by omega) hlt (by
          have h2 := HCM.out
          simp only [Nat.add_sub_cancel]
          intro h3
          unfold cmpI at h2
          rw [if_pos h3] at h2
          omega)).symm, HKW.out.trans (Kept.refl _).drew⟩
    · clear hp hk
      go_wp2
      go_ret
      exact ⟨ret_bool (risI_true (fun i h => HN.out i h (by omega))).symm, HKW.out⟩

set_option maxHeartbeats 1000000 in
theorem GrowI_any (n : Nat) (w : World) (hn : n < 1000000) :
    Calls Try.prog 151 #[.slice none 0 0, .int .i64 n] w (fun e w' => ∃ v, e = .returned v ∧ OwnI w' w.heap.size v ([] : List Int) ∧ Kept w w') := by
  by_cases h0 : n = 0
  · subst h0
    rw [show ((0 : Nat) : Int) = 0 from rfl]
    go_enter Try.func151, Try.ntmps151
    go_wp2
    go_ret
    exact ⟨_, rfl, OwnI.nil _ _, Kept.refl _⟩
  · have hd : decide ((n : Int) > 0) = true := decide_eq_true (by omega)
    have hd2 : decide (0 < n) = true := decide_eq_true (by omega)
    obtain ⟨i0, hi, hz0, hz1, hz2⟩ := info_parts info3
    have hb : Try.t3.bytes = 8 := rfl
    have hfits := growslice_fits (need := n) (old := 0) (bytes := 8) (by omega) (by omega)
    have hge : n ≤ (Question.appendCap n 0 3).cut (w.tape w.drawn (Question.appendCap n 0 3)) := grownCap_ge w n 0 3
    have hle : (Question.appendCap n 0 3).cut (w.tape w.drawn (Question.appendCap n 0 3)) ≤ maxLen := grownCap_le_maxLen w n 0 3 (by unfold maxLen; omega)
    have HB := Lib.hid hb
    have HF := Lib.hid hfits
    have HGE := Lib.hid hge
    have HLE := Lib.hid hle
    clear hge hle hi hz0 hz1 hz2 hfits hb
    go_enter Try.func151, Try.ntmps151
    go_wp2
    · exfalso; have := HB.out; simp only [this] at *; omega
    · exfalso; have := HB.out; simp only [this] at *; omega
    · exfalso; have h2 := ‹281474976710656 < Builtin.nextslicecap n 0 * Try.t3.bytes›; have h3 := HF.out; rw [HB.out] at h2; omega
    have hk : Kept w ((w.alloc (.cells (Builtin.zeroCells #[Value.int .i64 0] n ++ Builtin.zeroCells #[Value.int .i64 0] ((Question.appendCap n 0 3).cut (w.tape w.drawn (Question.appendCap n 0 3)) - n)) 3)).drew) := ((Kept.refl w).alloc _).drew
    go_ret
    refine ⟨_, rfl, ⟨by simp, .inr ⟨w.heap.size, _, _, rfl, Nat.le_refl _, heap_alloc_new w _, Nat.zero_le _, HLE.out, ?_, by simp⟩⟩, hk⟩
    have := HGE.out
    simp [Builtin.zeroCells]
    omega

/-- append of a list of ints onto a list of the call's own. -/
theorem append_list {ops : Array Oper} {rest : List Oper} {o : Oper} {a : Act} {Q : Exit → Act → World → Prop} (w : World) (hg : o.guard = none) (s x : Operand)
    (ho : o.op = .call { callee := .builtin .append, args := #[s, x], argTypes := #[31, 31] }) (base : Nat) (v : Value) (l : List Int) (hs : a.eval s = v) (hown : OwnI w base v l)
    (y : List Int) (yo : Option Addr) (c : Nat) (hx : a.eval x = .slice yo y.length c) (hy : Ints w yo y) (hnil : yo = none → c = 0) (hl : l.length + y.length < 1099511627776) (hbase : base ≤ w.heap.size)
    (h : ∀ v' w', OwnI w' base v' (l ++ y) → w.grownBy w' v.ownBlock → wpList Try.prog ops Q rest (a.put o.dst v') w') :
    wpList Try.prog ops Q (o :: rest) a w := by
  obtain ⟨i0, hi, hz0, hz1, hz2⟩ := info_parts info3
  cases yo with
  | none =>
    obtain rfl := hnil rfl
    have hnn : y = [] := by
      cases y with
      | nil => rfl
      | cons z t => obtain ⟨b, off, e, _⟩ := hy 0 (by simp); cases e
    subst hnn
    refine wpList_plain hg fun K hK => ?_
    have hrun := run_append_owned_none (P := Try.prog) w base 31 o.type 3 i0 1 Try.underlying31 hi v _ _ hown
    unfold Oper.wp
    simp [execOp, ho, resolve, invoke, builtin, hs, hx, hrun, Result.andThen]
    refine hK _ _ ?_
    exact h v w (by rw [List.append_nil]; exact hown) ⟨rfl, rfl, rfl, Nat.le_refl _, fun _ _ _ => rfl⟩
  | some ad =>
    refine wpList_append_own w hg s x 31 ho base 3 i0 (.int .i64 0) 1 8 Try.underlying31 hi hz0 hz1 hz2 rfl (by decide) v l.length _ hs hown ad y.length c (y.map (.int .i64)) hx (by simp)
      (fun j u hu => ?_) (fun u hu => by obtain ⟨z, _, rfl⟩ := List.mem_map.1 hu; simp [Value.oneCell']) (by unfold maxLen; omega) (by omega) hbase ?_
    · obtain ⟨hj, e⟩ := List.getElem?_eq_some_iff.1 hu
      rw [List.length_map] at hj
      obtain ⟨B, off, e2, hc⟩ := hy j hj
      cases e2
      rw [List.getElem_map] at e
      rw [← e]
      rw [Addr.add_mid]
      exact hc
    · intro v' w' h1 h2 _
      refine h v' w' ?_ h2
      unfold OwnI
      rw [List.length_append, List.map_append]
      exact h1

/-- Lists of ints behind co. -/
def Chs (X : World) (co : Option Addr) (chs : List (List Int)) : Prop := ∀ i, (h : i < chs.length) → ∃ B off la lc, co = some ⟨B, off, none⟩ ∧ X.cell? ⟨B, off + i, none⟩ = some (.slice la chs[i].length lc) ∧ Ints X la chs[i] ∧ (la = none → lc = 0) ∧ chs[i].length ≤ lc
theorem Chs.kept {X Y : World} {co : Option Addr} {chs : List (List Int)} (h : Chs X co chs) (hk : Kept X Y) : Chs Y co chs := fun i hi => by
  obtain ⟨B, off, la, lc, e, h1, h2, h3, h4⟩ := h i hi
  exact ⟨B, off, la, lc, e, hk.cell h1, h2.kept hk, h3, h4⟩
theorem flat_succ {chs : List (List Int)} {k : Nat} (hk : k < chs.length) : (chs.take (k + 1)).flatten = (chs.take k).flatten ++ chs[k] := by
  rw [List.take_succ_eq_append_getElem hk, List.flatten_append]
  simp
theorem flat_len_succ {chs : List (List Int)} {k : Nat} (hk : k < chs.length) : (chs.take (k + 1)).flatten.length = (chs.take k).flatten.length + chs[k].length := by
  rw [flat_succ hk, List.length_append]
theorem flat_len {chs : List (List Int)} (h : ∀ c ∈ chs, c.length ≤ 30) : ∀ k, (chs.take k).flatten.length ≤ 30 * k := by
  intro k
  induction k with
  | zero => simp
  | succ k ih =>
    by_cases hk : k < chs.length
    · rw [flat_succ hk, List.length_append]
      have := h chs[k] (List.getElem_mem hk)
      omega
    · rw [List.take_of_length_le (by omega)] at ih ⊢
      omega

set_option maxHeartbeats 1000000 in
theorem ConcatI_any (chs : List (List Int)) (co : Option Addr) (cc : Nat) (w : World) (hc : Chs w co chs) (hl : chs.length ≤ 30) (hs : ∀ c ∈ chs, c.length ≤ 30) :
    Calls Try.prog 131 #[.slice co chs.length cc] w (fun e w' => ∃ v, e = .returned v ∧ OwnI w' w.heap.size v chs.flatten ∧ Kept w w') := by
  have HC := Lib.hid hc
  have HFL := Lib.hid (flat_len hs)
  have HSU : Hid (∀ k (h : k < chs.length), (chs.take (k + 1)).flatten = (chs.take k).flatten ++ chs[k]) := Lib.hid fun k h => flat_succ h
  have HSI : Hid (∀ k (h : k < chs.length), chs[k].length ≤ 30) := Lib.hid fun k h => hs _ (List.getElem_mem h)
  clear hc hs
  go_enter Try.func131, Try.ntmps131
  go_wp2
  go_loop [3, 11] (fun sv i => ∃ k : Nat, k ≤ chs.length ∧ i = .int .i64 k ∧ sv = .int .i64 ((chs.take k).flatten.length : Int)) (fun _ i => chs.length - (intOf i).toNat)
  case atStart => exact ⟨0, Nat.zero_le _, rfl, rfl⟩
  case round =>
    obtain ⟨k, hk, rfl, rfl⟩ := hrel
    by_cases hlt : k < chs.length
    case pos =>
      have HLT := Lib.hid hlt
      obtain ⟨B, off, la, lc, rfl, h1, h2, h3, h4⟩ := HC.out k hlt
      have hb := lt_of_cell h1
      have h5 := HFL.out k
      have h6 := HSI.out k hlt
      have HE : Hid ((chs.take (k + 1)).flatten.length = (chs.take k).flatten.length + chs[k].length) := Lib.hid (flat_len_succ hlt)
      generalize (chs.take k).flatten.length = n1 at *
      generalize chs[k].length = m at *
      clear h2 h3 h4
      have hw : wrap64 ((n1 : Int) + (m : Int)) = (n1 : Int) + (m : Int) := IntWalk.wrap64_in _ (by omega)
      have hd : decide ((n1 : Int) + (m : Int) < 0) = false := decide_eq_false (by omega)
      go_wp2
      go_round
      case measure => have := HLT.out; simp [intOf] <;> omega
      case rel => exact ⟨k + 1, HLT.out, by go_num, by rw [HE.out]; simp⟩
    obtain rfl : k = chs.length := by omega
    have hlen := HFL.out chs.length
    rw [List.take_length] at hlen ⊢
    generalize hnn : chs.flatten.length = n at *
    have HNN := Lib.hid hnn
    clear hnn hk hlt
    go_wp2_with fail
    refine (GrowI_any n w (by omega)).mono ?_
    rintro e w1 ⟨v, rfl, hown, hk⟩
    have HO := Lib.hid hown
    have HK := Lib.hid hk
    clear hown hk
    go_wp2
    go_loopw [6, 27] (fun v i wi => ∃ k : Nat, k ≤ chs.length ∧ i = .int .i64 k ∧ Kept w wi ∧ OwnI wi w.heap.size v (chs.take k).flatten) (fun _ i _ => chs.length - (intOf i).toNat)
    case atStart => exact ⟨0, Nat.zero_le _, rfl, HK.out, HO.out⟩
    case round =>
      obtain ⟨k, hk, rfl, hkr, hor⟩ := hrel
      by_cases hlt : k < chs.length
      case pos =>
        have HLT := Lib.hid hlt
        obtain ⟨B, off, la, lc, rfl, h1, h2, h3, h4⟩ := HC.out.kept hkr k hlt
        have hb := lt_of_cell h1
        have h5 := HFL.out k
        have h6 := HSI.out k hlt
        have HOR := Lib.hid hor
        have HKR := Lib.hid hkr
        have HI2 := Lib.hid h2
        have HN2 := Lib.hid h3
        have HE := Lib.hid (HSU.out k hlt)
        clear hor hkr h2 h3 h4
        generalize (chs.take k).flatten = f1 at *
        generalize chs[k] = m at *
        go_wp2_with (at_builtin; refine append_list _ rfl _ _ rfl w.heap.size _ f1 rfl HOR.out m la lc rfl HI2.out HN2.out (by omega) HKR.out.size ?_; intro v' w' hov hgb; have HOV := Lib.hid hov; have HGB := Lib.hid (HKR.out.grown hgb (fun r e => (HOR.out.lt r e).1)); clear hov hgb)
        go_roundw
        case measure => have := HLT.out; simp [intOf] <;> omega
        case rel => exact ⟨k + 1, HLT.out, by go_num, HGB.out, by rw [HE.out]; exact HOV.out⟩
      obtain rfl : k = chs.length := by omega
      rw [List.take_length] at hor
      clear hk hlt
      go_wp2
      go_ret
      exact ⟨_, rfl, hor, hkr⟩
end Go.Proofs.Yteljjkghjbofnaa
