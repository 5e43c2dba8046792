/- ref.Without. -/
import Derived.Test.YteljjkghjbofnaaWb
import Derived.Test.YteljjkghjbofnaaTf
set_option maxRecDepth 100000
namespace Go.Proofs.Yteljjkghjbofnaa
open Go Go.Proofs Go.RowKit
attribute [local go_sem] Oper.semAt_some

def RWithP (P : Prob) (bo : Option Addr) (cb : Nat) (w : World) (e : Ending) (w' : World) : Prop := ∃ pa pc, e = .returned (probV P pa pc bo cb) ∧ IsProb w' P pa bo ∧ Kept w w'

theorem step_app2 {ops : Array Oper} {o : Oper} {a : Act} {w : World} {K : Act → World → Prop} {Q : Exit → Act → World → Prop} {E : Prop}
    (hg : o.guard = none) (s x : Operand) (hop : o.op = Op.call { callee := Callee.builtin Builtin.append, args := #[s, x], argTypes := #[22, 22] })
    (base : Nat) (v : Value) (l : List (Int × Int)) (hown : OwnG w base 83 2 pairC v l) (hs : a.eval s = v) (y : Int × Int) (g c : Nat) (hx : a.eval x = .slice (some ⟨g, 0, none⟩) 1 c)
    (hc : w.cell? ⟨g, 0, none⟩ = some (.int .i64 y.1) ∧ w.cell? ⟨g, 1, none⟩ = some (.int .i64 y.2)) (hl : l.length + 1 < 1099511627776) (hbase : base ≤ w.heap.size)
    (hK : ∀ v' w', OwnG w' base 83 2 pairC v' (l ++ [y]) → w.grownBy w' v.ownBlock → K (a.put o.dst v') w') :
    if Region.wanted o (yielded ops a.tmps) = true then Oper.wp Try.prog o a w K Q else E := by
  have hw : Region.wanted o (yielded ops a.tmps) = true := by simp [Region.wanted, hg]
  rw [if_pos hw]
  obtain ⟨i0, hi, hz0, hz1, hz2⟩ := info_parts info83
  obtain ⟨v', w', hrun, r1, r2, _⟩ := run_append_own (P := Try.prog) (w := w) base 22 o.type 83 i0 _ 2 16 Try.underlying22 hi hz0 hz1 hz2 rfl (by decide) v l.length _ hown ⟨g, 0, none⟩ 1 c (pairC y) rfl (fun j u hu => by
      match j, hu with
      | 0, hu => simp [pairC] at hu; subst hu; exact hc.1
      | 1, hu => simp [pairC] at hu; subst hu; exact hc.2
      | j + 2, hu => simp [pairC] at hu) (pairC_one y) (by unfold maxLen; omega) (by omega) hbase
  unfold Oper.wp
  simp [execOp, hop, resolve, invoke, builtin, hs, hx, hrun, Result.andThen]
  refine hK v' w' ?_ r2
  have h := r1
  unfold OwnG
  rw [List.length_append, List.flatMap_append]
  simpa using h

set_option maxHeartbeats 2000000 in
theorem RWithout_any (o : Prob) (ao bo : Option Addr) (ca cb : Nat) (s : Nat) (w : World) (ho : IsProb w o ao bo) (hm : o.arcs.length ≤ 12) (hs : s < 2 ^ o.arcs.length) :
    Calls Try.prog 124 #[probV o ao ca bo cb, .int .i64 s] w (RWithP ⟨o.N, keepT o.arcs (membs o.arcs.length s) o.arcs.length, o.near⟩ bo cb w) := by
  have HO := Lib.hid ho
  have hs4 : s < 4096 := Nat.lt_of_lt_of_le hs (Nat.pow_le_pow_right (by decide) hm)
  have HMEM : Hid (∀ i, i < o.arcs.length → (i ∈ membs o.arcs.length s ↔ hasS (BitVec.ofNat 32 s) i = true)) := Lib.hid fun i hi => by
    unfold membs
    rw [List.mem_filter, List.mem_range]
    exact ⟨fun h => h.2, fun h => ⟨hi, h⟩⟩
  clear ho hs
  generalize membs o.arcs.length s = ch at *
  go_enter Try.func124, Try.ntmps124
  go_wp2
  obtain ⟨w0, e0, hk0, hb0, e5⟩ := alloc_prob w o.N o.arcs o.near ao ca bo cb
  rw [e0]
  clear e0
  have hp4 := PBox.new w0 0 (.slice none 0 0) (.slice none 0 0)
  have hk1 := hk0.alloc (.cells #[.int .i64 0, .slice none 0 0, .slice none 0 0] 24)
  have hb1 := hb0.kept ((Kept.refl _).alloc (.cells #[.int .i64 0, .slice none 0 0, .slice none 0 0] 24))
  have e6 : (w0.alloc (.cells #[.int .i64 0, .slice none 0 0, .slice none 0 0] 24)).heap.size = w0.heap.size + 1 := by simp
  generalize w0.alloc (.cells #[.int .i64 0, .slice none 0 0, .slice none 0 0] 24) = w1 at *
  have hp5 := PBox.new w1 o.N (.slice none 0 0) (.slice bo o.near.length cb)
  have hka : Kept w1 (w1.alloc (.cells #[.int .i64 o.N, .slice none 0 0, .slice bo o.near.length cb] 24)) := (Kept.refl _).alloc _
  have e7 : (w1.alloc (.cells #[.int .i64 o.N, .slice none 0 0, .slice bo o.near.length cb] 24)).heap.size = w1.heap.size + 1 := by simp
  generalize w1.alloc (.cells #[.int .i64 o.N, .slice none 0 0, .slice bo o.near.length cb] 24) = w2 at *
  have HK2 := Lib.hid (hk1.trans hka)
  have HB2 := Lib.hid (hb1.kept hka)
  have hp4' := hp4.kept hka
  obtain ⟨g4, hg4⟩ : ∃ g4, w.heap.size + 1 = g4 := ⟨_, rfl⟩
  obtain ⟨bx, hbx⟩ : ∃ bx, g4 + 1 = bx := ⟨_, rfl⟩
  rw [hg4, hbx]
  rw [← e5, hg4] at hp4'
  rw [e6, ← e5, hg4, hbx] at hp5
  have HP4 := Lib.hid hp4'
  have HP5 := Lib.hid hp5
  have HLT : Hid (w.heap.size < g4 ∧ g4 < bx ∧ bx < w2.heap.size) := Lib.hid ⟨by omega, by omega, by omega⟩
  clear hp4 hp4' hp5 hk0 hk1 hka hb0 hb1 e5 e6 e7 hg4 hbx
  go_loopw [6] (fun i wr => ∃ (a : Nat) (va : Value), a ≤ o.arcs.length ∧ i = .int .i64 a ∧ Kept w wr ∧ FrX w2 wr bx ∧ PBox wr bx o.N va (.slice bo o.near.length cb) ∧ OwnG wr w2.heap.size 83 2 pairC va (keepT o.arcs ch a)) (fun i _ => o.arcs.length - (intOf i).toNat)
  case atStart => exact ⟨0, _, Nat.zero_le _, rfl, HK2.out, FrX.refl _ _, HP5.out, OwnG.nil _ _ _ _ _⟩
  case round =>
    obtain ⟨a, va, ha, rfl, hk, hfr, hbc, hoa⟩ := hrel
    have HKC := Lib.hid hk
    have HFR := Lib.hid hfr
    have HBC := Lib.hid hbc
    have HOA := Lib.hid hoa
    have q0 := hfr.cell _ _ _ (by have := HLT.out; omega) HB2.out.1
    have q1 := hfr.cell _ _ _ (by have := HLT.out; omega) HB2.out.2
    have qb := lt_of_cell q0
    clear hk hfr hbc hoa
    by_cases hlt : a < o.arcs.length
    · have HL := Lib.hid hlt
      have ha12 : a < 12 := by omega
      have hbi := bit_not s a hs4
      cases hb : hasS (BitVec.ofNat 32 s) a
      · rw [hb] at hbi
        have HKY := Lib.hid (keepT_yes (A := o.arcs) (ch := ch) hlt (fun h => by rw [(HMEM.out a hlt).1 h] at hb; cases hb))
        obtain ⟨B, off, rfl, c0, c1⟩ := (HO.out.kept HKC.out).arcs a hlt
        generalize o.arcs[a] = x at *
        obtain ⟨x1, x2⟩ := x
        simp only at c0 c1
        obtain ⟨p0, p1, p2, pf⟩ := HBC.out
        have f1 := pf 1
        have pb := lt_of_cell p0
        have HLN : Hid ((keepT o.arcs ch a).length < 1099511627775) := Lib.hid (by have := keepT_len o.arcs ch a; omega)
        clear pf hb
        generalize keepT o.arcs ch a = pre at *
        go_wp2
        go_region_law (refine step_app2 rfl (.tmp 26) (.tmp 32) rfl w2.heap.size va pre (by first | exact HOA.out.kept ((Kept.refl _).alloc _).drew | exact HOA.out.kept ((Kept.refl _).drew.alloc _)) (by simp [Act.eval]) (x1, x2) wr.heap.size 1 (by simp [Act.eval]) (by constructor <;> simp [go_sem]) (by have := HLN.out; omega) (by have := HFR.out.size; simp; omega) ?_; intro v' w8 hown4 hg4; obtain ⟨xa, xc, rfl, -, -⟩ := hown4.prs; have HO4 := Lib.hid hown4; have HB4 : Hid (PBox w8 bx o.N va (.slice bo o.near.length cb)) := Lib.hid (PBox.grownNe (HBC.out.kept (by first | exact ((Kept.refl _).alloc _).drew | exact ((Kept.refl _).drew.alloc _))) hg4 (fun e => by have := (HOA.out.lt bx e.symm).1; have := HLT.out; omega)); have HG4 := Lib.hid hg4; clear hown4 hg4 p0 p1 p2 f1 pb; obtain ⟨p0, p1, p2, pf⟩ := HB4.out; have f1 := pf 1; have pb := lt_of_cell p0; clear pf)
        all_goals
          go_wp2
          go_roundw
          case measure => have := HL.out; simp [intOf] <;> omega
          case rel =>
            have hne6 : ∀ j, va.ownBlock = some j → w2.heap.size ≤ j := fun j e => (HOA.out.lt j e).1
            have hlt := HLT.out
            have hs2 := HK2.out.size
            have hKK : Kept wr (wr.alloc (.cells #[.int .i64 x1, .int .i64 x2] 83)).drew := ((Kept.refl _).alloc _).drew
            refine ⟨a + 1, .slice xa (pre.length + 1) xc, HL.out, by go_num, ?_, ?_, ?_, ?_⟩
            · exact ((HKC.out.trans hKK).grown HG4.out (fun r e => by have := hne6 r e; omega)).setCell (p := ⟨bx, 1, none⟩) (by show _ ≤ bx; omega) _
            · exact HFR.out.step hKK HG4.out (fun r e => hne6 r e) _ _
            · exact HB4.out.set1 _
            · have h4 := HO4.out
              simp only [List.length_append, List.length_cons, List.length_nil, Nat.zero_add] at h4
              rw [HKY.out]
              exact h4.setBelow (by show bx < _; omega) _
      · rw [hb] at hbi
        have HKN := Lib.hid (keepT_no (A := o.arcs) (ch := ch) ((HMEM.out a hlt).2 hb))
        clear hb
        go_wp2
        go_roundw
        case measure => have := HL.out; simp [intOf] <;> omega
        case rel => exact ⟨a + 1, va, HL.out, by go_num, HKC.out, HFR.out, HBC.out, by rw [HKN.out]; exact HOA.out⟩
    · obtain rfl : a = o.arcs.length := by omega
      clear hlt ha
      have HP9 := Lib.hid (HP4.out.fr HFR.out (by have := HLT.out; omega))
      obtain ⟨p0, p1, p2, pf⟩ := HBC.out
      have pb := lt_of_cell p0
      obtain ⟨s0, s1, s2, sf⟩ := HP9.out
      have f0 := sf 0
      have f1 := sf 1
      have f2 := sf 2
      have sb := lt_of_cell s0
      clear pf sf
      have hoa := HOA.out
      obtain ⟨xa, xc, rfl, hpx, -⟩ := hoa.prs
      have HPX := Lib.hid hpx
      clear hoa hpx
      have HLN := Lib.hid (keepT_len o.arcs ch o.arcs.length)
      generalize keepT o.arcs ch o.arcs.length = pre at *
      have HB9 := Lib.hid (HP9.out.set o.N (.slice xa pre.length xc) (.slice bo o.near.length cb))
      go_wp2
      refine bodyPost_ret (results_cell rfl _ _ ⟨g4, 0, none⟩ rfl _ (load24 HB9.out.c0 HB9.out.c1 HB9.out.c2)) rfl ?_
      have hlt := HLT.out
      have hkf : Kept w (((wr.setCell ⟨g4, 0, none⟩ (.int .i64 o.N)).setCell ⟨g4, 1, none⟩ (.slice xa pre.length xc)).setCell ⟨g4, 2, none⟩ (.slice bo o.near.length cb)) :=
        ((HKC.out.setCell (p := ⟨g4, 0, none⟩) (by show _ ≤ g4; omega) _).setCell (p := ⟨g4, 1, none⟩) (by show _ ≤ g4; omega) _).setCell (p := ⟨g4, 2, none⟩) (by show _ ≤ g4; omega) _
      refine ⟨xa, xc, rfl, ⟨?_, (HO.out.kept hkf).near, by have := HLN.out; show pre.length < _; omega, HO.out.lb⟩, hkf⟩
      have h := ((HOA.out.setBelow (a := ⟨g4, 0, none⟩) (by show g4 < _; omega) (.int .i64 o.N)).setBelow (a := ⟨g4, 1, none⟩) (by show g4 < _; omega) (.slice xa pre.length xc)).setBelow (a := ⟨g4, 2, none⟩) (by show g4 < _; omega) (.slice bo o.near.length cb)
      obtain ⟨ya, yc, e, hp, -⟩ := h.prs
      simp only [Value.slice.injEq] at e
      rw [← e.1] at hp
      exact hp
end Go.Proofs.Yteljjkghjbofnaa
