/- ref.shortest. -/
import Derived.Test.YteljjkghjbofnaaVa
import Derived.Test.YteljjkghjbofnaaTq
set_option maxRecDepth 100000
namespace Go.Proofs.Yteljjkghjbofnaa
open Go Go.Proofs Go.RowKit
attribute [local go_sem] Oper.semAt_some

theorem append_iat {ops : Array Oper} {rest : List Oper} {o : Oper} {a : Act} {Q : Exit → Act → World → Prop} (w : World) (hg : o.guard = none) (s x : Operand)
    (ho : o.op = .call { callee := .builtin .append, args := #[s, x], argTypes := #[31, 31] }) (base : Nat) (v : Value) (l : List Int) (hs : a.eval s = v) (hown : OwnI w base v l)
    (g c : Nat) (y : Int) (hx : a.eval x = .slice (some ⟨g, 0, none⟩) 1 c) (hy : w.cell? ⟨g, 0, none⟩ = some (.int .i64 y)) (hl : l.length < 1099511627776) (hbase : base ≤ w.heap.size)
    (h : ∀ g' c' w', OwnI w' base (.slice (some ⟨g', 0, none⟩) (l.length + 1) c') (l ++ [y]) → w.grownBy w' v.ownBlock → (some g' = v.ownBlock ∨ g' = w.heap.size) → wpList Try.prog ops Q rest (a.put o.dst (.slice (some ⟨g', 0, none⟩) (l.length + 1) c')) w') :
    wpList Try.prog ops Q (o :: rest) a w := by
  obtain ⟨i0, hi, hz0, hz1, hz2⟩ := info_parts info3
  refine wpList_append_own_at w hg s x 31 ho base 3 i0 (.int .i64 0) 1 8 Try.underlying31 hi hz0 hz1 hz2 rfl (by decide) v l.length _ hs hown ⟨g, 0, none⟩ 1 c [.int .i64 y] hx rfl
    (fun j u hu => ?_) (by simp [Value.oneCell']) (by unfold maxLen; omega) (by omega) hbase ?_
  · cases j with
    | zero => simp at hu; subst hu; exact hy
    | succ j => simp at hu
  · intro v' w' h1 h2 _ h4
    obtain ⟨g', c', rfl, h3⟩ := own_succ h1
    exact h g' c' w' h3 h2 (by
      rcases h4 with h4 | h4
      · exact .inl h4
      · exact .inr (by simpa [Value.ownBlock] using h4))

/-- Three lists of one's own, apart from each other. -/
structure Tri (X : World) (base : Nat) (v5 v6 v8 : Value) (l5 l6 l8 : List Int) : Prop where
  o5 : OwnI X base v5 l5
  o6 : OwnI X base v6 l6
  o8 : OwnI X base v8 l8
  a56 : ∀ g, v5.ownBlock = some g → v6.ownBlock ≠ some g
  a58 : ∀ g, v5.ownBlock = some g → v8.ownBlock ≠ some g
  a68 : ∀ g, v6.ownBlock = some g → v8.ownBlock ≠ some g
section
variable {X Y : World} {base : Nat} {v5 v6 v8 : Value} {l5 l6 l8 : List Int}
theorem Tri.kept (h : Tri X base v5 v6 v8 l5 l6 l8) (hk : Kept X Y) : Tri Y base v5 v6 v8 l5 l6 l8 := ⟨h.o5.kept hk, h.o6.kept hk, h.o8.kept hk, h.a56, h.a58, h.a68⟩
theorem Tri.turn (h : Tri X base v5 v6 v8 l5 l6 l8) : Tri X base v8 v6 (.slice none 0 0) l8 l6 [] := ⟨h.o8, h.o6, OwnI.nil _ _, fun g h1 h2 => h.a68 g h2 h1, fun g h1 h2 => (by cases h2), fun g h1 h2 => (by cases h2)⟩
theorem Tri.app6 (h : Tri X base v5 v6 v8 l5 l6 l8) {g' n c : Nat} {l : List Int} (ho : OwnI Y base (.slice (some ⟨g', 0, none⟩) n c) l) (hg : X.grownBy Y v6.ownBlock) (hat : some g' = v6.ownBlock ∨ g' = X.heap.size) : Tri Y base v5 (.slice (some ⟨g', 0, none⟩) n c) v8 l5 l l8 := by
  refine ⟨h.o5.grownNe hg fun k h1 h2 => h.a56 k h1 h2.symm, ho, h.o8.grownNe hg fun k h1 h2 => h.a68 k h2.symm h1, fun g h1 h2 => ?_, h.a58, fun g h1 h2 => ?_⟩
  · have e : g' = g := by simpa [Value.ownBlock] using h2
    subst e
    rcases hat with h3 | h3
    · exact h.a56 _ h1 h3.symm
    · have := (h.o5.lt _ h1).2; omega
  · have e : g' = g := by simpa [Value.ownBlock] using h1
    subst e
    rcases hat with h3 | h3
    · exact h.a68 _ h3.symm h2
    · have := (h.o8.lt _ h2).2; omega
theorem Tri.app8 (h : Tri X base v5 v6 v8 l5 l6 l8) {g' n c : Nat} {l : List Int} (ho : OwnI Y base (.slice (some ⟨g', 0, none⟩) n c) l) (hg : X.grownBy Y v8.ownBlock) (hat : some g' = v8.ownBlock ∨ g' = X.heap.size) : Tri Y base v5 v6 (.slice (some ⟨g', 0, none⟩) n c) l5 l6 l := by
  refine ⟨h.o5.grownNe hg fun k h1 h2 => h.a58 k h1 h2.symm, h.o6.grownNe hg fun k h1 h2 => h.a68 k h1 h2.symm, ho, h.a56, fun g h1 h2 => ?_, fun g h1 h2 => ?_⟩
  · have e : g' = g := by simpa [Value.ownBlock] using h2
    subst e
    rcases hat with h3 | h3
    · exact h.a58 _ h1 h3.symm
    · have := (h.o5.lt _ h1).2; omega
  · have e : g' = g := by simpa [Value.ownBlock] using h2
    subst e
    rcases hat with h3 | h3
    · exact h.a68 _ h1 h3.symm
    · have := (h.o6.lt _ h1).2; omega
end

set_option maxHeartbeats 2000000 in
theorem Rshort_any (o : Prob) (ao bo : Option Addr) (ca cb : Nat) (a : Nat) (w : World) (ho : IsProb w o ao bo) (hc : chk o = 0) (ha : a < (webOf o).n) :
    Calls Try.prog 97 #[probV o ao ca bo cb, .int .i64 a] w (fun e w' => ∃ v : Int, e = .returned (.int .i64 v) ∧ Short (webOf o) a v ∧ Kept w w') := by
  have HO := Lib.hid ho
  have HN := Lib.hid (webOf_nI hc)
  have HN24 := Lib.hid (webOf_n hc)
  have HARC : Hid (∀ a b : Nat, arcR o a b = hasS ((webOf o).to a) b) := Lib.hid (arcR_eq hc)
  have HA := Lib.hid ha
  clear ho hc ha
  generalize webOf o = W at *
  go_enter Try.func97, Try.ntmps97
  go_wp2_with fail
  obtain ⟨w0, e0, hk0, hb0, hs0⟩ := alloc_prob w o.N o.arcs o.near ao ca bo cb
  rw [e0]
  clear e0
  have HK0 := Lib.hid hk0
  have HB0 := Lib.hid hb0
  have HS0 := Lib.hid hs0
  clear hk0 hs0 hb0
  go_wp2
  have hs1 : (w0.alloc (.cells #[.int .i64 (a : Int)] 3)).heap.size = w.heap.size + 1 + 1 := by have := HS0.out; simp; omega
  have ho5 : OwnI (w0.alloc (.cells #[.int .i64 (a : Int)] 3)) w0.heap.size (.slice (some ⟨w.heap.size + 1, 0, none⟩) 1 1) [(a : Int)] := by
    have h := OwnI.build w0 w0.heap.size (a : Int) (Nat.le_refl _)
    rw [← HS0.out] at h ⊢
    exact h
  have ho6 : OwnI ((w0.alloc (.cells #[.int .i64 (a : Int)] 3)).alloc (.cells #[] 3)) w0.heap.size (.slice (some ⟨w.heap.size + 1 + 1, 0, none⟩) 0 0) [] := by
    have h := OwnEI (w0.alloc (.cells #[.int .i64 (a : Int)] 3)) (base := w0.heap.size) (by simp)
    rw [hs1] at h
    exact h
  have htri : Tri ((w0.alloc (.cells #[.int .i64 (a : Int)] 3)).alloc (.cells #[] 3)) w0.heap.size (.slice (some ⟨w.heap.size + 1, 0, none⟩) 1 1) (.slice (some ⟨w.heap.size + 1 + 1, 0, none⟩) 0 0) (.slice none 0 0) [(a : Int)] [] [] :=
    ⟨ho5.kept ((Kept.refl _).alloc _), ho6, OwnI.nil _ _, fun g h1 h2 => by simp [Value.ownBlock] at h1 h2; omega, fun g h1 h2 => (by cases h2), fun g h1 h2 => (by cases h2)⟩
  have hkk : Kept w0 ((w0.alloc (.cells #[.int .i64 (a : Int)] 3)).alloc (.cells #[] 3)) := ((Kept.refl w0).alloc _).alloc _
  generalize ((w0.alloc (.cells #[.int .i64 (a : Int)] 3)).alloc (.cells #[] 3)) = w1 at *
  have HT1 := Lib.hid htri
  have HK1 := Lib.hid hkk
  clear hs1 ho5 ho6 htri hkk
  generalize Value.slice (some ⟨w.heap.size + 1, 0, none⟩) 1 1 = i5 at HT1 ⊢
  generalize Value.slice (some ⟨w.heap.size + 1 + 1, 0, none⟩) 0 0 = i6 at HT1 ⊢
  have HBS : Hid (w.heap.size ≤ w0.heap.size) := Lib.hid HK0.out.size
  go_loopw [5, 6, 7] (fun v5 v6 st wr => ∃ (s : Nat) (now known : List Int), s ≤ W.n ∧ st = .int .i64 ((s : Int) + 1) ∧ Front W a s now known ∧ Tri wr w0.heap.size v5 v6 (.slice none 0 0) now known [] ∧ Kept w0 wr) (fun _ _ st _ => W.n + 1 - (intOf st).toNat)
  case atStart => exact ⟨0, _, _, Nat.zero_le _, rfl, Front.zero HA.out, HT1.out, HK1.out⟩
  case round =>
    clear HT1 HK1
    obtain ⟨s, now, known0, hs, rfl, hfr, htr, hkw⟩ := hrel
    have HFR := Lib.hid hfr
    have HTR := Lib.hid htr
    have HKW := Lib.hid hkw
    have HSN := Lib.hid hs
    have hs24 : s ≤ 24 := by have := HN24.out; omega
    clear hfr htr hkw
    obtain ⟨q0, q1, q2⟩ := HB0.out.kept HKW.out
    have qb := lt_of_cell q0
    by_cases hlt : s < W.n
    · have hki : decide ((s : Int) + 1 ≤ o.N) = true := decide_eq_true (by have := HN.out; omega)
      have HLT := Lib.hid hlt
      clear hlt hs
      go_wp2
      clear q0 q1 q2 qb hki
      go_loopw [6, 8, 9] (fun v6 v8 i wi => ∃ (k : Nat) (known next : List Int), k ≤ now.length ∧ i = .int .i64 k ∧ Mid W a s now known0 k 0 known next ∧ Tri wi w0.heap.size u5 v6 v8 now known next ∧ Kept w0 wi) (fun _ _ i _ => now.length - (intOf i).toNat)
      case atStart => exact ⟨0, _, _, Nat.zero_le _, rfl, Mid.start HFR.out, HTR.out, HKW.out⟩
      case round =>
        clear HTR HKW
        obtain ⟨k, known1, next1, hk, rfl, hmd, htr, hkw⟩ := hrel
        have HMD := Lib.hid hmd
        have HTR := Lib.hid htr
        have HKW := Lib.hid hkw
        have HLN := Lib.hid HFR.out.len
        clear hmd htr hkw
        obtain ⟨ao5, c5, rfl, hc5, hi5⟩ := HTR.out.o5.slice
        have HI5 := Lib.hid hi5
        clear hi5
        by_cases hklt : k < now.length
        · have hk24 : k < 24 := by have := HLN.out.1; have := HN24.out; omega
          obtain ⟨x, hx, hxn, hx2⟩ : ∃ x : Nat, now[k] = (x : Int) ∧ x < W.n ∧ (x : Int) ∈ now := by
            obtain ⟨q, h1, h2, _⟩ := HFR.out.nw _ (List.getElem_mem hklt)
            exact ⟨q, h1, h2, by rw [← h1]; exact List.getElem_mem hklt⟩
          have HX := Lib.hid hx
          have HXN := Lib.hid hxn
          have HXM := Lib.hid hx2
          have HKLT := Lib.hid hklt
          clear hx hxn hx2
          go_wp2
          go_loopw [6, 8, 10] (fun v6 v8 i wi => ∃ (b : Nat) (known next : List Int), b ≤ W.n ∧ i = .int .i64 b ∧ Mid W a s now known0 k b known next ∧ Tri wi w0.heap.size (.slice ao5 now.length c5) v6 v8 now known next ∧ Kept w0 wi) (fun _ _ i _ => W.n - (intOf i).toNat)
          case atStart => exact ⟨0, _, _, Nat.zero_le _, rfl, HMD.out, HTR.out, HKW.out⟩
          case round =>
            clear HTR HKW HMD HI5
            obtain ⟨b, known2, next2, hb, rfl, hmd, htr, hkw⟩ := hrel
            have HMD := Lib.hid hmd
            have HTR := Lib.hid htr
            have HKW := Lib.hid hkw
            clear hmd htr hkw
            obtain ⟨ao6, c6, rfl, hc6, hi6⟩ := HTR.out.o6.slice
            obtain ⟨ao8, c8, rfl, -, -⟩ := HTR.out.o8.slice
            obtain ⟨ao5', c5', e5, -, hi5⟩ := HTR.out.o5.slice
            cases e5
            have HI5 := Lib.hid hi5
            have HI6 := Lib.hid hi6
            clear hi5 hi6
            have HL2 := Lib.hid HMD.out.len
            obtain ⟨q0, q1, q2⟩ := HB0.out.kept HKW.out
            have qb := lt_of_cell q0
            by_cases hbn : b < W.n
            · have hbi : decide ((b : Int) < o.N) = true := decide_eq_true (by have := HN.out; omega)
              have hb24 : b < 24 := by have := HN24.out; omega
              have HBN := Lib.hid hbn
              obtain ⟨B, off, rfl, hcx⟩ := HI5.out k hklt
              rw [HX.out] at hcx
              have HCX := Lib.hid hcx
              have hd : decide (((b : Nat) : Int) ∈ known2) = decide (((b : Nat) : Int) ∈ known2) := rfl
              clear hbn hb hcx hd
              go_wp2
              clear q0 q1 q2 qb hbi
              refine region_class (fun Z => Kept wr Z) 7 (by kernel_rfl) (by kernel_rfl) (Kept.refl _).drew ?_
              simp only [List.take_succ_cons, List.take_zero, List.drop_succ_cons, List.drop_zero]
              refine wpQuiet_yield (.agg #[.int .i64 o.N, .slice ao o.arcs.length ca, .slice bo o.near.length cb]) (by rfl) (fun Z hZ => ?_) ?_
              · obtain ⟨q0, q1, q2⟩ := HB0.out.kept (HKW.out.trans hZ)
                have qb := lt_of_cell q0
                go_simp
              simp only [Act.put, List.setIfInBounds_toArray, List.set_cons_zero, List.set_cons_succ]
              refine wpQuiet_yield (.slice (some ⟨B, off, none⟩) now.length c5) (by rfl) (fun Z hZ => ?_) ?_
              · go_simp
              simp only [Act.put, List.setIfInBounds_toArray, List.set_cons_zero, List.set_cons_succ]
              refine wpQuiet_yield (.int .i64 k) (by rfl) (fun Z hZ => ?_) ?_
              · go_simp
              simp only [Act.put, List.setIfInBounds_toArray, List.set_cons_zero, List.set_cons_succ]
              refine wpQuiet_yield (.pointer (some ⟨B, off + k, none⟩)) (by rfl) (fun Z hZ => ?_) ?_
              · go_simp
              simp only [Act.put, List.setIfInBounds_toArray, List.set_cons_zero, List.set_cons_succ]
              refine wpQuiet_yield (.int .i64 x) (by rfl) (fun Z hZ => ?_) ?_
              · have hc := hZ.cell HCX.out
                go_simp
              simp only [Act.put, List.setIfInBounds_toArray, List.set_cons_zero, List.set_cons_succ]
              refine wpQuiet_yield (.int .i64 b) (by rfl) (fun Z hZ => ?_) ?_
              · go_simp
              simp only [Act.put, List.setIfInBounds_toArray, List.set_cons_zero, List.set_cons_succ]
              refine wpQuiet_yield (.bool (hasS (W.to x) b)) (by rfl) (fun Z hZ => ?_) ?_
              · go_simp
                have hF := Rarc_any o ao bo ca cb (x : Int) (b : Int) Z (HO.out.kept ((HK0.out.trans HKW.out).trans hZ))
                rw [HARC.out] at hF
                exact hF.mono fun e Z' h => ⟨h.1, hZ.trans h.2⟩
              simp only [Act.put, List.setIfInBounds_toArray, List.set_cons_zero, List.set_cons_succ]
              refine wpQuiet_nil ?_
              intro w4 hk4
              have HK4 := Lib.hid (HKW.out.trans hk4)
              have HT4 := Lib.hid (HTR.out.kept hk4)
              have HI4 := Lib.hid (HI6.out.kept hk4)
              clear hk4
              go_wp2_with fail
              have hF := Rhas_any known2 ao6 c6 (b : Int) w4 HI4.out (by have := HL2.out.2; have := HN24.out; omega)
              obtain ⟨r, hr⟩ : ∃ r, decide ((b : Int) ∈ known2) = r := ⟨_, rfl⟩
              rw [hr] at hF
              have HR := Lib.hid hr
              clear hr
              refine hF.mono ?_
              clear hF
              rintro e w5 ⟨rfl, rfl⟩
              cases hh : hasS (W.to x) b
              · have HM2 := Lib.hid (HMD.out.no hklt (by rw [HX.out, Int.toNat_natCast]; exact hh))
                clear hh
                go_wp2
                go_roundw
                case measure => have := HBN.out; simp [intOf] <;> omega
                case rel => exact ⟨b + 1, _, _, HBN.out, by go_num, HM2.out, HT4.out, HK4.out⟩
              · have HH := Lib.hid hh
                clear hh
                by_cases hba : b = a
                · subst hba
                  have eb : ((b : Int) == (b : Int)) = true := by simp
                  have HSH := Lib.hid (HFR.out.found HA.out HXM.out HH.out)
                  go_wp2
                  go_ret
                  exact ⟨_, rfl, HSH.out, HK0.out.trans HK4.out⟩
                · have eb : ((b : Int) == (a : Int)) = false := by simp; omega
                  have HBA := Lib.hid hba
                  clear hba
                  cases r
                  · have HM2 := Lib.hid (HMD.out.add (of_decide_eq_false HR.out) HBA.out HBN.out (HFR.out.reach HXM.out HBN.out HH.out))
                    have hz0 : w0.heap.size ≤ w4.heap.size := HK4.out.size
                    have hz1 := HL2.out.1
                    have hz2 := HL2.out.2
                    have hz3 := HN24.out
                    go_wp2_with (at_builtin; first | (refine append_iat _ rfl _ _ rfl w0.heap.size (.slice ao6 known2.length c6) known2 rfl (HT4.out.kept ((Kept.refl _).alloc _)).o6 w4.heap.size 1 (b : Int) rfl (by simp [go_sem]) (by omega) (by simp; omega) ?_; intro g6 d6 w6 hown6 hg6 hat6; have HT6 := Lib.hid ((HT4.out.kept ((Kept.refl w4).alloc _)).app6 hown6 hg6 hat6); have HK6 := Lib.hid ((HK4.out.alloc _).grown hg6 (fun r e => ((HT4.out.kept ((Kept.refl w4).alloc (.cells #[.int .i64 (b : Int)] 3))).o6.lt r e).1)); clear hown6 hg6 hat6 hz0; have hz0 := HK6.out.size) | (refine append_iat _ rfl _ _ rfl w0.heap.size (.slice ao8 next2.length c8) next2 rfl (HT6.out.kept ((Kept.refl _).alloc _)).o8 w6.heap.size 1 (b : Int) rfl (by simp [go_sem]) (by omega) (by simp; omega) ?_; intro g8 d8 w8 hown8 hg8 hat8; have HT8 := Lib.hid ((HT6.out.kept ((Kept.refl w6).alloc _)).app8 hown8 hg8 hat8); have HK8 := Lib.hid ((HK6.out.alloc _).grown hg8 (fun r e => ((HT6.out.kept ((Kept.refl w6).alloc (.cells #[.int .i64 (b : Int)] 3))).o8.lt r e).1)); clear hown8 hg8 hat8))
                    go_roundw
                    case measure => have := HBN.out; simp [intOf] <;> omega
                    case rel => exact ⟨b + 1, _, _, HBN.out, by go_num, HM2.out, HT8.out, HK8.out⟩
                  · have HM2 := Lib.hid (HMD.out.seen (of_decide_eq_true HR.out) HBA.out)
                    go_wp2
                    go_roundw
                    case measure => have := HBN.out; simp [intOf] <;> omega
                    case rel => exact ⟨b + 1, _, _, HBN.out, by go_num, HM2.out, HT4.out, HK4.out⟩
            · obtain rfl : b = W.n := by omega
              have hbi : decide ((W.n : Int) < o.N) = false := decide_eq_false (by have := HN.out; omega)
              clear hbn hb
              go_wp2
              go_roundw
              case measure => have := HKLT.out; simp [intOf] <;> omega
              case rel => exact ⟨k + 1, _, _, HKLT.out, by go_num, HMD.out.turn, HTR.out, HKW.out⟩
        · obtain rfl : k = now.length := by omega
          have HMF := Lib.hid (HMD.out.done HFR.out)
          clear hklt hk
          go_wp2
          go_roundw
          case measure => have := HLT.out; simp [intOf] <;> omega
          case rel => exact ⟨s + 1, _, _, HLT.out, by go_num, HMF.out, HTR.out.turn, HKW.out⟩
    · obtain rfl : s = W.n := by omega
      have hki : decide ((W.n : Int) + 1 ≤ o.N) = false := decide_eq_false (by have := HN.out; omega)
      clear hlt hs
      go_wp2
      go_ret
      exact ⟨_, rfl, HFR.out.none, HK0.out.trans HKW.out⟩
end Go.Proofs.Yteljjkghjbofnaa
