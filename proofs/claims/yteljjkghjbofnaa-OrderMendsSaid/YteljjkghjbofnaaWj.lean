/- without: a problem without some arcs. -/
import Derived.Test.YteljjkghjbofnaaWf
set_option maxRecDepth 100000
namespace Go.Proofs.Yteljjkghjbofnaa
open Go Go.Proofs Go.RowKit
attribute [local go_sem] Oper.semAt_some

def filtA (A l : List (Int × Int)) (k : Nat) : List (Int × Int) := (A.take k).filter fun x => !decide (x ∈ l)

theorem filtA_succ (A l : List (Int × Int)) {a : Nat} (h : a < A.length) : filtA A l (a + 1) = filtA A l a ++ if decide (A[a] ∈ l) = true then [] else [A[a]] := by
  unfold filtA
  rw [List.take_succ_eq_append_getElem h, List.filter_append, List.filter_cons]
  by_cases h : A[a] ∈ l
  · simp [h]
  · simp [h]
theorem mem_succ (l : List (Int × Int)) {j : Nat} (h : j < l.length) (x1 x2 : Int) : decide ((x1, x2) ∈ l.take (j + 1)) = (decide ((x1, x2) ∈ l.take j) || (decide (x1 = l[j].1) && decide (x2 = l[j].2))) := by
  have hmem : (x1, x2) ∈ l.take (j + 1) ↔ (x1, x2) ∈ l.take j ∨ (x1, x2) = l[j] := by rw [List.take_succ_eq_append_getElem h, List.mem_append, List.mem_singleton]
  rw [Bool.eq_iff_iff]
  simp only [decide_eq_true_eq, Bool.or_eq_true, Bool.and_eq_true, hmem, Prod.ext_iff]

set_option maxHeartbeats 4000000 in
theorem without_any (o : Prob) (ao bo : Option Addr) (ca cb : Nat) (l : List (Int × Int)) (lo : Option Addr) (lc : Nat) (w : World) (ho : IsProb w o ao bo) (hm : o.arcs.length ≤ 16) (hl : Pairs w lo l) (hll : l.length ≤ 16) :
    Calls Try.prog 63 #[probV o ao ca bo cb, .slice lo l.length lc] w (RWithP ⟨o.N, filtA o.arcs l o.arcs.length, o.near⟩ bo cb w) := by
  have HO := Lib.hid ho
  have HLP := Lib.hid hl
  clear ho hl
  go_enter Try.func63, Try.ntmps63
  go_wp2
  obtain ⟨w0, e0, hk0, hb0, e5⟩ := alloc_prob w o.N o.arcs o.near ao ca bo cb
  rw [e0]
  clear e0
  have hp4 := PBox.new w0 0 (.slice none 0 0) (.slice none 0 0)
  have hk1 := hk0.alloc (.cells #[.int .i64 0, .slice none 0 0, .slice none 0 0] 24)
  have hb1 := hb0.kept ((Kept.refl _).alloc (.cells #[.int .i64 0, .slice none 0 0, .slice none 0 0] 24))
  have e6 : (w0.alloc (.cells #[.int .i64 0, .slice none 0 0, .slice none 0 0] 24)).heap.size = w0.heap.size + 1 := by simp
  generalize w0.alloc (.cells #[.int .i64 0, .slice none 0 0, .slice none 0 0] 24) = w1 at *
  have hp5 := PBox.new w1 o.N (.slice none 0 0) (.slice bo o.near.length cb)
  have hka : Kept w1 (w1.alloc (.cells #[.int .i64 o.N, .slice none 0 0, .slice bo o.near.length cb] 24)) := (Kept.refl _).alloc _
  have e7 : (w1.alloc (.cells #[.int .i64 o.N, .slice none 0 0, .slice bo o.near.length cb] 24)).heap.size = w1.heap.size + 1 := by simp
  generalize w1.alloc (.cells #[.int .i64 o.N, .slice none 0 0, .slice bo o.near.length cb] 24) = w2 at *
  have HK2 := Lib.hid (hk1.trans hka)
  have hp4' := hp4.kept hka
  obtain ⟨g4, hg4⟩ : ∃ g4, w.heap.size + 1 = g4 := ⟨_, rfl⟩
  obtain ⟨bx, hbx⟩ : ∃ bx, g4 + 1 = bx := ⟨_, rfl⟩
  rw [hg4, hbx]
  rw [← e5, hg4] at hp4'
  rw [e6, ← e5, hg4, hbx] at hp5
  have HP4 := Lib.hid hp4'
  have HP5 := Lib.hid hp5
  have HLT : Hid (w.heap.size < g4 ∧ g4 < bx ∧ bx < w2.heap.size) := Lib.hid ⟨by omega, by omega, by omega⟩
  clear hp4 hp4' hp5 hk0 hk1 hka hb0 hb1 e5 e6 e7 hg4 hbx
  go_loopw [19] (fun i wr => ∃ (a : Nat) (va : Value), a ≤ o.arcs.length ∧ i = .int .i64 a ∧ Kept w wr ∧ FrX w2 wr bx ∧ PBox wr bx o.N va (.slice bo o.near.length cb) ∧ OwnG wr w2.heap.size 83 2 pairC va (filtA o.arcs l a)) (fun i _ => o.arcs.length - (intOf i).toNat)
  case atStart => exact ⟨0, _, Nat.zero_le _, rfl, HK2.out, FrX.refl _ _, HP5.out, OwnG.nil _ _ _ _ _⟩
  case round =>
    obtain ⟨a, va, ha, rfl, hk, hfr, hbc, hoa⟩ := hrel
    have HKC := Lib.hid hk
    have HFR := Lib.hid hfr
    have HBC := Lib.hid hbc
    have HOA := Lib.hid hoa
    clear hk hfr hbc hoa
    by_cases hlt : a < o.arcs.length
    · have HL := Lib.hid hlt
      have ha16 : a < 16 := by omega
      obtain ⟨B, off, rfl, c0, c1⟩ := (HO.out.kept HKC.out).arcs a hlt
      have hnx := filtA_succ o.arcs l hlt
      have HNX := Lib.hid hnx
      clear hnx
      have HLN : Hid ((filtA o.arcs l a).length < 100) := Lib.hid (by
        unfold filtA
        have := List.length_filter_le (fun x => !decide (x ∈ l)) (o.arcs.take a)
        rw [List.length_take] at this
        omega)
      generalize o.arcs[a] = x at *
      obtain ⟨x1, x2⟩ := x
      simp only at c0 c1
      have hKA : Kept wr (wr.alloc (.cells #[.int .i64 x1, .int .i64 x2] 83)) := (Kept.refl _).alloc _
      have HKA := Lib.hid hKA
      have HPC : Hid ((wr.alloc (.cells #[.int .i64 x1, .int .i64 x2] 83)).cell? ⟨wr.heap.size, 0, none⟩ = some (.int .i64 x1) ∧ (wr.alloc (.cells #[.int .i64 x1, .int .i64 x2] 83)).cell? ⟨wr.heap.size, 1, none⟩ = some (.int .i64 x2)) := Lib.hid ⟨by simp [go_sem], by simp [go_sem]⟩
      clear hKA
      generalize filtA o.arcs l a = pre at *
      go_wp2
      clear c0 c1
      obtain ⟨tb, htb⟩ : ∃ tb, wr.heap.size = tb := ⟨_, rfl⟩
      rw [htb] at HPC ⊢
      clear htb
      generalize wr.alloc (.cells #[.int .i64 x1, .int .i64 x2] 83) = wa at *
      go_loopw [8, 25] (fun g c wi => ∃ j : Nat, j ≤ l.length ∧ c = .int .i64 j ∧ g = .bool (decide ((x1, x2) ∈ l.take j)) ∧ Kept wa wi) (fun _ c _ => l.length - (intOf c).toNat)
      case atStart => exact ⟨0, Nat.zero_le _, rfl, by simp, Kept.refl _⟩
      case round =>
        obtain ⟨j, hj, rfl, rfl, hkw⟩ := hrel
        have HKW := Lib.hid hkw
        have t0 := hkw.cell HPC.out.1
        have t1 := hkw.cell HPC.out.2
        have tl := lt_of_cell t0
        clear hkw
        by_cases hjl : j < l.length
        · have HJL := Lib.hid hjl
          have hj16 : j < 16 := by omega
          obtain ⟨B2, off2, rfl, d0, d1⟩ := (HLP.out.kept ((HKC.out.trans HKA.out).trans HKW.out)) j hjl
          have hjn := mem_succ l hjl x1 x2
          have HJN := Lib.hid hjn
          clear hjn
          generalize l[j] = y at *
          obtain ⟨y1, y2⟩ := y
          simp only at d0 d1 HJN
          generalize decide ((x1, x2) ∈ l.take j) = gd at *
          have HREL : Hid (∀ b, b = (gd || (decide (x1 = y1) && decide (x2 = y2))) → b = decide ((x1, x2) ∈ l.take (j + 1))) := Lib.hid fun b hb => hb.trans HJN.out.symm
          cases gd
          · by_cases h1 : x1 = y1
            · subst h1
              have e1 : (x1 == x1) = true := by simp
              by_cases h2 : x2 = y2
              · subst h2
                have e2 : (x2 == x2) = true := by simp
                have HB := Lib.hid (HREL.out true (by simp))
                go_wp2
                go_roundw
                case measure => have := HJL.out; simp [intOf] <;> omega
                case rel => exact ⟨j + 1, HJL.out, by go_num, by rw [← HB.out], HKW.out.alloc _⟩
              · have e2 : (x2 == y2) = false := by simp [h2]
                have e3 : decide (x2 = y2) = false := decide_eq_false h2
                have HB := Lib.hid (HREL.out false (by simp [h2]))
                go_wp2
                go_roundw
                case measure => have := HJL.out; simp [intOf] <;> omega
                case rel => exact ⟨j + 1, HJL.out, by go_num, by rw [← HB.out], HKW.out.alloc _⟩
            · have e1 : (x1 == y1) = false := by simp [h1]
              have e3 : decide (x1 = y1) = false := decide_eq_false h1
              have HB := Lib.hid (HREL.out false (by simp [h1]))
              go_wp2
              go_roundw
              case measure => have := HJL.out; simp [intOf] <;> omega
              case rel => exact ⟨j + 1, HJL.out, by go_num, by rw [← HB.out], HKW.out.alloc _⟩
          · have HB := Lib.hid (HREL.out true (by simp))
            go_wp2
            go_roundw
            case measure => have := HJL.out; simp [intOf] <;> omega
            case rel => exact ⟨j + 1, HJL.out, by go_num, by rw [← HB.out], HKW.out.alloc _⟩
        · obtain rfl : j = l.length := by omega
          rw [List.take_length]
          have HKI := Lib.hid (HKA.out.trans HKW.out)
          clear hjl hj
          generalize decide ((x1, x2) ∈ l) = gd at *
          cases gd
          · have hnx : filtA o.arcs l (a + 1) = pre ++ [(x1, x2)] := HNX.out
            have HF2 := Lib.hid hnx
            clear hnx
            obtain ⟨p0, p1, p2, pf⟩ := HBC.out.kept HKI.out
            have f1 := pf 1
            have pb := lt_of_cell p0
            clear pf
            have HBC2 := Lib.hid (HBC.out.kept HKI.out)
            have HOA2 := Lib.hid (HOA.out.kept HKI.out)
            have HKC2 := Lib.hid (HKC.out.trans HKI.out)
            have HFI := Lib.hid (HFR.out.kept HKI.out)
            have hHA : Kept wr (wr.alloc (.cells #[.int .i64 x1, .int .i64 x2] 83)) := (Kept.refl _).alloc _
            have HHA := Lib.hid hHA
            clear hHA
            go_wp2_with (at_builtin; refine append_g _ rfl _ _ 22 rfl w2.heap.size 83 2 16 _ pairC pairC_len pairC_one Try.underlying22 info83 rfl (by decide) (by decide) va pre rfl (HOA2.out.kept HHA.out) wr.heap.size 1 [(x1, x2)] rfl (pair_newA wr (x1, x2)) (by have := HLN.out; simp only [List.length_cons, List.length_nil]; omega) (by have := HFI.out.size; simp; omega) ?_; intro v' w8 hown4 hg4 _; obtain ⟨xa, xc, rfl, -, -⟩ := hown4.prs; have HO4 := Lib.hid hown4; have HG4 := Lib.hid hg4; have HB4 : Hid (PBox w8 bx o.N va (.slice bo o.near.length cb)) := Lib.hid ((HBC2.out.kept HHA.out).grownNe hg4 (fun e => by have := (HOA2.out.lt bx e.symm).1; have := HLT.out; omega)); clear p0 p1 p2 f1 pb hown4 hg4 t0 t1 tl; obtain ⟨p0, p1, p2, pf⟩ := HB4.out; have f1 := pf 1; have pb := lt_of_cell p0; clear pf)
            go_roundw
            case measure => have := HL.out; simp [intOf] <;> omega
            case rel =>
              have hne6 : ∀ j, va.ownBlock = some j → w2.heap.size ≤ j := fun j e => (HOA2.out.lt j e).1
              have hlt := HLT.out
              have hs2 := HK2.out.size
              refine ⟨a + 1, .slice xa (pre.length + 1) xc, HL.out, by go_num, ?_, ?_, ?_, ?_⟩
              · exact ((HKC2.out.trans HHA.out).grown HG4.out (fun r e => by have := hne6 r e; omega)).setCell (p := ⟨bx, 1, none⟩) (by show _ ≤ bx; omega) _
              · exact HFI.out.step HHA.out HG4.out (fun r e => hne6 r e) _ _
              · exact HB4.out.set1 _
              · have h4 := HO4.out
                simp only [List.length_append, List.length_cons, List.length_nil, Nat.zero_add] at h4
                rw [HF2.out]
                exact h4.setBelow (by show bx < _; omega) _
          · have hnx : filtA o.arcs l (a + 1) = pre := by rw [HNX.out]; simp
            have HF2 := Lib.hid hnx
            clear hnx
            go_wp2
            go_roundw
            case measure => have := HL.out; simp [intOf] <;> omega
            case rel => exact ⟨a + 1, va, HL.out, by go_num, HKC.out.trans HKI.out, HFR.out.kept HKI.out, HBC.out.kept HKI.out, by rw [HF2.out]; exact HOA.out.kept HKI.out⟩
    · obtain rfl : a = o.arcs.length := by omega
      clear hlt ha
      have HP9 := Lib.hid (HP4.out.fr HFR.out (by have := HLT.out; omega))
      obtain ⟨p0, p1, p2, pf⟩ := HBC.out
      have pb := lt_of_cell p0
      obtain ⟨s0, s1, s2, sf⟩ := HP9.out
      have f0 := sf 0
      have f1 := sf 1
      have f2 := sf 2
      have sb := lt_of_cell s0
      clear pf sf
      have hoa := HOA.out
      obtain ⟨xa, xc, rfl, hpx, -⟩ := hoa.prs
      clear hoa hpx
      have HLN : Hid ((filtA o.arcs l o.arcs.length).length ≤ 16) := Lib.hid (by
        unfold filtA
        have := List.length_filter_le (fun x => !decide (x ∈ l)) (o.arcs.take o.arcs.length)
        rw [List.length_take] at this
        omega)
      generalize filtA o.arcs l o.arcs.length = pre at *
      have HB9 := Lib.hid (HP9.out.set o.N (.slice xa pre.length xc) (.slice bo o.near.length cb))
      go_wp2
      refine bodyPost_ret (results_cell rfl _ _ ⟨g4, 0, none⟩ rfl _ (load24 HB9.out.c0 HB9.out.c1 HB9.out.c2)) rfl ?_
      have hlt := HLT.out
      have hkf : Kept w (((wr.setCell ⟨g4, 0, none⟩ (.int .i64 o.N)).setCell ⟨g4, 1, none⟩ (.slice xa pre.length xc)).setCell ⟨g4, 2, none⟩ (.slice bo o.near.length cb)) :=
        ((HKC.out.setCell (p := ⟨g4, 0, none⟩) (by show _ ≤ g4; omega) _).setCell (p := ⟨g4, 1, none⟩) (by show _ ≤ g4; omega) _).setCell (p := ⟨g4, 2, none⟩) (by show _ ≤ g4; omega) _
      refine ⟨xa, xc, rfl, ⟨?_, (HO.out.kept hkf).near, by have := HLN.out; show pre.length < _; omega, HO.out.lb⟩, hkf⟩
      have h := ((HOA.out.setBelow (a := ⟨g4, 0, none⟩) (by show g4 < _; omega) (.int .i64 o.N)).setBelow (a := ⟨g4, 1, none⟩) (by show g4 < _; omega) (.slice xa pre.length xc)).setBelow (a := ⟨g4, 2, none⟩) (by show g4 < _; omega) (.slice bo o.near.length cb)
      obtain ⟨ya, yc, e, hp, -⟩ := h.prs
      simp only [Value.slice.injEq] at e
      rw [← e.1] at hp
      exact hp
end Go.Proofs.Yteljjkghjbofnaa
