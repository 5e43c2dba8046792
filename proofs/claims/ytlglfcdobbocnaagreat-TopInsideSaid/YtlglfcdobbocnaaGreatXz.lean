/- Where faces.assembled is; the order of parts. -/
import Derived.Test.YtlglfcdobbocnaaGreatXx
import Derived.Test.YtlglfcdobbocnaaGreatPb
set_option maxRecDepth 100000
namespace Go.Proofs.YtlglfcdobbocnaaGreat
open Go Go.Proofs Go.RowKit
/-- Cells stay, but for those of one block. -/
structure Sty (k : Nat) (w X : World) : Prop where
  size : w.heap.size ≤ X.heap.size
  cell : ∀ b o v, b ≠ k → w.cell? ⟨b, o, none⟩ = some v → X.cell? ⟨b, o, none⟩ = some v
section
variable {k : Nat} {w X Y : World}
theorem Sty.of (h : Kept w X) : Sty k w X := ⟨h.size, fun _ _ _ _ hc => h.cell hc⟩
theorem Sty.refl (k : Nat) (w : World) : Sty k w w := Sty.of (Kept.refl _)
theorem Sty.trans (h : Sty k w X) (h2 : Sty k X Y) : Sty k w Y := ⟨Nat.le_trans h.size h2.size, fun b o v hb hc => h2.cell b o v hb (h.cell b o v hb hc)⟩
theorem Sty.kept (h : Sty k w X) (h2 : Kept X Y) : Sty k w Y := h.trans (Sty.of h2)
theorem Sty.grown {row : Option Nat} (h : Sty k w X) (hg : X.grownBy Y row) (hr : ∀ r, row = some r → w.heap.size ≤ r ∨ r = k) : Sty k w Y :=
  ⟨Nat.le_trans h.size hg.size, fun b o v hb hc => grown_cell hg (h.cell b o v hb hc) fun e => by
    have := hr b e.symm
    have := lt_of_cell hc
    omega⟩
theorem Sty.set (h : Sty k w X) {b : Nat} (hb : w.heap.size ≤ b ∨ b = k) (o : Nat) (v : Value) : Sty k w (X.setCell ⟨b, o, none⟩ v) :=
  ⟨by simpa using h.size, fun b' o' u hn hc => cell_set_block (h.cell b' o' u hn hc) (fun e => by have := lt_of_cell hc; omega)⟩
theorem Sty.pairs (h : Sty k w X) {ao : Option Addr} {l : List Pt} (hp : Pairs w ao l) (hn : ∀ x, ao = some x → x.block ≠ k) : Pairs X ao l := fun i hi => by
  obtain ⟨b, off, rfl, c0, c1⟩ := hp i hi
  have hb := hn _ rfl
  exact ⟨b, off, rfl, h.cell _ _ _ hb c0, h.cell _ _ _ hb c1⟩
theorem Sty.ints (h : Sty k w X) {ao : Option Addr} {l : List Int} (hp : Ints w ao l) (hn : ∀ x, ao = some x → x.block ≠ k) : Ints X ao l := fun i hi => by
  obtain ⟨b, off, rfl, c0⟩ := hp i hi
  exact ⟨b, off, rfl, h.cell _ _ _ (hn _ rfl) c0⟩
theorem Sty.prts (h : Sty k w X) {ao : Option Addr} {l : List Prt} (hp : Prts w ao l) (hn : ∀ x, ao = some x → x.block ≠ k) : Prts X ao l := fun i hi => by
  obtain ⟨b, off, rfl, c0, c1, c2, c3, c4, c5⟩ := hp i hi
  have hb := hn _ rfl
  exact ⟨b, off, rfl, h.cell _ _ _ hb c0, h.cell _ _ _ hb c1, h.cell _ _ _ hb c2, h.cell _ _ _ hb c3, h.cell _ _ _ hb c4, h.cell _ _ _ hb c5⟩
end
/-- The segments of parts. -/
def segsL (L : List Prt) : List Sg := L.map Prt.s
theorem segsL_len (L : List Prt) : (segsL L).length = L.length := by unfold segsL; simp
theorem segsL_at {L : List Prt} {i : Nat} (h : i < L.length) : sgAt (segsL L) i = L[i].s := by
  rw [sgAt_get (by rw [segsL_len]; exact h)]
  simp only [segsL, List.getElem_map]
/-- The variables of assembled, in memory, one by one. -/
structure AsmX (W : World) (mb ti te lb : Nat) (ap : Option Addr) (cp : Nat) (al : Option Addr) (cl : Nat) (P : List Pt) (L : List Prt) : Prop where
  m : W.cell? ⟨mb, 0, none⟩ = some (.slice ap P.length cp)
  pts : Pairs W ap P
  i : W.cell? ⟨ti, 0, none⟩ = some (.func (.func 51) #[] #[.pointer (some ⟨mb, 0, none⟩)])
  e : W.cell? ⟨te, 0, none⟩ = some (.func (.func 53) #[] #[.pointer (some ⟨ti, 0, none⟩), .pointer (some ⟨lb, 0, none⟩)])
  l : W.cell? ⟨lb, 0, none⟩ = some (.slice al L.length cl)
  prts : Prts W al L
section
variable {W X : World} {mb ti te lb : Nat} {ap : Option Addr} {cp : Nat} {al : Option Addr} {cl : Nat} {P : List Pt} {L : List Prt}
theorem AsmX.asm (h : AsmX W mb ti te lb ap cp al cl P L) : AsmW W mb ti te lb P L := ⟨⟨ap, cp, h.m, h.pts⟩, h.i, h.e, ⟨al, cl, h.l, h.prts⟩⟩
theorem AsmX.sty {k : Nat} (h : AsmX W mb ti te lb ap cp al cl P L) (hs : Sty k W X) (hm : X.cell? ⟨mb, 0, none⟩ = some (.slice ap P.length cp)) (n1 : ti ≠ k) (n2 : te ≠ k) (n3 : lb ≠ k) (np : ∀ x, ap = some x → x.block ≠ k) (nl : ∀ x, al = some x → x.block ≠ k) : AsmX X mb ti te lb ap cp al cl P L :=
  ⟨hm, hs.pairs h.pts np, hs.cell _ _ _ n1 h.i, hs.cell _ _ _ n2 h.e, hs.cell _ _ _ n3 h.l, hs.prts h.prts nl⟩
/-- What the order of parts answers. -/
def cmE (S : List Sg) (x y : Int) : Int := orI [cmpI (ixF S x.toNat).1 (ixF S y.toNat).1, cmpI (ixF S x.toNat).2 (ixF S y.toNat).2]
def PrtAt (n : Nat) (x : Int) : Prop := ∃ i : Nat, x = i ∧ i < n
theorem cmE_lt (S : List Sg) (a b : Nat) : cmE S a b < 0 ↔ ltE S a b = true := by
  unfold cmE ltE
  rw [ltN_iff, or2, Int.toNat_natCast, Int.toNat_natCast]
  have h1 := cmpI_cases ((ixF S a).1 : Int) (ixF S b).1
  have h2 := cmpI_cases ((ixF S a).2 : Int) (ixF S b).2
  split <;> omega
theorem cmE_lin {S : List Sg} (hn : S.Nodup) : Lin (PrtAt S.length) fun x y => cmE S x y < 0 := by
  have hl := ltE_lin hn
  refine ⟨fun a b ha hb k => ?_, fun a b c ha hb hc k1 k2 => ?_, fun a b ha hb hn => ?_⟩
  · obtain ⟨i, rfl, hi⟩ := ha
    obtain ⟨j, rfl, hj⟩ := hb
    rw [cmE_lt] at *
    rw [hl.asymm i j hi hj k]
    decide
  · obtain ⟨i, rfl, hi⟩ := ha
    obtain ⟨j, rfl, hj⟩ := hb
    obtain ⟨m, rfl, hm⟩ := hc
    rw [cmE_lt] at *
    exact hl.trans i j m hi hj hm k1 k2
  · obtain ⟨i, rfl, hi⟩ := ha
    obtain ⟨j, rfl, hj⟩ := hb
    rw [cmE_lt, cmE_lt]
    exact hl.tri i j hi hj fun e => hn (by rw [e])
theorem between_of (L : List Prt) (hl : (ptsF (segsL L)).length < 100000) : Between (ptsF (segsL L)) L := by
  refine ⟨uniP_strict _, hl, fun x hx => ?_⟩
  obtain ⟨i, hi, rfl⟩ := List.mem_iff_getElem.1 hx
  have := sg_ends (S := segsL L) (i := i) (by rw [segsL_len]; exact hi)
  rw [segsL_at hi] at this
  exact this
theorem order_ok {g : Nat} (h : AsmX W mb ti te lb ap cp al cl (ptsF (segsL L)) L) (hb : Between (ptsF (segsL L)) L) (n0 : mb ≠ g) (n1 : ti ≠ g) (n2 : te ≠ g) (n3 : lb ≠ g) (np : ∀ x, ap = some x → x.block ≠ g) (nl : ∀ x, al = some x → x.block ≠ g) :
    CmpOk 55 #[.pointer (some ⟨te, 0, none⟩)] (fun x : Int => Value.int .i64 x) (PrtAt L.length) (cmE (segsL L)) W g := by
  refine ⟨fun x y X hx hy hg => ?_, fun args X => rfl⟩
  obtain ⟨i, rfl, hi⟩ := hx
  obtain ⟨j, rfl, hj⟩ := hy
  have hs : Sty g W X := (Sty.refl g W).grown hg fun r e => .inr (by cases e; rfl)
  have hX := h.sty hs (hs.cell _ _ _ n0 h.m) n1 n2 n3 np nl
  have := order2_any mb ti te lb (ptsF (segsL L)) L i j X hX.asm hb hi hj
  unfold cmE ixF
  rw [Int.toNat_natCast, Int.toNat_natCast, segsL_at hi, segsL_at hj]
  exact this
end
/-- The edges of what is assembled. -/
def asmEd (L : List Prt) (fc : Nat → Int × Int) (k : Nat) : Five := ((((ixF (segsL L) (ordAt (segsL L) k)).1 : Nat) : Int), (((ixF (segsL L) (ordAt (segsL L) k)).2 : Nat) : Int), (fc k).1, (fc k).2, (L.map Prt.line).getD (ordAt (segsL L) k) 0)
def asmEds (L : List Prt) (fc : Nat → Int × Int) : List Five := (List.range L.length).map (asmEd L fc)
theorem asmEds_len (L : List Prt) (fc : Nat → Int × Int) : (asmEds L fc).length = L.length := by unfold asmEds; simp
theorem asmEds_at {L : List Prt} {fc : Nat → Int × Int} {k : Nat} (h : k < (asmEds L fc).length) : (asmEds L fc)[k] = asmEd L fc k := by simp only [asmEds, List.getElem_map, List.getElem_range]
theorem asmEds_are (L : List Prt) (fc : Nat → Int × Int) : EdgesAre (asmEds L fc) (edgesF (segsL L)) := by
  have key : ∀ i, i < L.length → (edgesF (segsL L)).getD i (0, 0) = ixF (segsL L) (ordAt (segsL L) i) := fun i hi => edgesF_get (by rw [segsL_len]; exact hi)
  refine ⟨by rw [asmEds_len, edgesF_len, segsL_len], fun i hi => ?_, fun i hi => ?_⟩
  · rw [asmEds_at, key i (by rw [asmEds_len] at hi; exact hi)]
    rfl
  · rw [asmEds_at, key i (by rw [asmEds_len] at hi; exact hi)]
    rfl
theorem asmEds_take {L : List Prt} {fc : Nat → Int × Int} {k : Nat} (h : k < L.length) : (asmEds L fc).take (k + 1) = (asmEds L fc).take k ++ [asmEd L fc k] := by
  rw [List.take_succ_eq_append_getElem (by rw [asmEds_len]; exact h), asmEds_at]
/-- The faces of the first edges are put. -/
def fcTo (fc : Nat → Int × Int) (k j : Nat) : Int × Int := if j < k then fc j else (0, 0)
theorem asmEds_set {L : List Prt} {fc : Nat → Int × Int} {k : Nat} : (asmEds L (fcTo fc k)).set k (asmEd L fc k) = asmEds L (fcTo fc (k + 1)) := by
  apply List.ext_getElem
  · simp [asmEds_len]
  · intro i h1 h2
    rw [List.getElem_set]
    split
    · rename_i e
      subst e
      rw [asmEds_at]
      unfold asmEd fcTo
      rw [if_pos (by omega)]
    · rw [asmEds_at, asmEds_at]
      unfold asmEd fcTo
      by_cases c : i < k
      · rw [if_pos c, if_pos (by omega)]
      · rw [if_neg c, if_neg (by omega)]
theorem fcTo_zero (fc : Nat → Int × Int) : fcTo fc 0 = fun _ => (0, 0) := by funext j; unfold fcTo; rw [if_neg (by omega)]
theorem asmEds_all (L : List Prt) (fc : Nat → Int × Int) : asmEds L (fcTo fc L.length) = asmEds L fc := by
  unfold asmEds
  refine List.map_congr_left fun k hk => ?_
  unfold asmEd fcTo
  rw [if_pos (List.mem_range.1 hk)]
/-- The ends of the first parts. -/
theorem ends_take {L : List Prt} {k : Nat} (h : k < L.length) : endsS (segsL (L.take (k + 1))) = endsS (segsL (L.take k)) ++ [L[k].s.1, L[k].s.2] := by
  rw [List.take_succ_eq_append_getElem h]
  unfold segsL endsS
  rw [List.map_append, List.flatMap_append]
  rfl
theorem ends_len (L : List Prt) (k : Nat) : (endsS (segsL (L.take k))).length ≤ 2 * k := by
  rw [endsS_len, segsL_len, List.length_take]
  omega
end Go.Proofs.YtlglfcdobbocnaaGreat
