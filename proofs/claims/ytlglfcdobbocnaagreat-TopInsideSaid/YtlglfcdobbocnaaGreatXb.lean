/- The web in memory; the dart that comes next: a range over a function, left in its first round. -/
import Derived.Test.YtlglfcdobbocnaaGreatXa
import Derived.Test.YtlglfcdobbocnaaGreatPb
import Derived.RangeFuncNested
import Derived.RangeFuncBound
import Derived.RangeFuncCalls
import Derived.RangeFuncLeaves
import Derived.Shelf.Abstract
import Derived.Shelf.RegionOpen
import Derived.OwnWalkIn
import Derived.TacticsInMore
import Derived.LoopNIn
import Derived.LoopIn
set_option maxRecDepth 100000
namespace Go.Proofs.YtlglfcdobbocnaaGreat
open Go Go.Proofs Go.RowKit
attribute [local go_sem] Oper.semAt_some
/-! ### Rows in memory -/
abbrev Five := Int × Int × Int × Int × Int
/-- Behind ao lie the fives l. -/
def Fives (w : World) (ao : Option Addr) (l : List Five) : Prop :=
  ∀ i, (h : i < l.length) → ∃ b off, ao = some ⟨b, off, none⟩ ∧ w.cell? ⟨b, off + i * 5, none⟩ = some (.int .i64 l[i].1) ∧ w.cell? ⟨b, off + i * 5 + 1, none⟩ = some (.int .i64 l[i].2.1) ∧ w.cell? ⟨b, off + i * 5 + 2, none⟩ = some (.int .i64 l[i].2.2.1) ∧ w.cell? ⟨b, off + i * 5 + 3, none⟩ = some (.int .i64 l[i].2.2.2.1) ∧ w.cell? ⟨b, off + i * 5 + 4, none⟩ = some (.int .i64 l[i].2.2.2.2)
/-- Behind ao lie lists of numbers. -/
def Lists (w : World) (ao : Option Addr) (l : List (List Int)) : Prop :=
  ∀ i, (h : i < l.length) → ∃ b off, ao = some ⟨b, off, none⟩ ∧ ∃ a c, w.cell? ⟨b, off + i, none⟩ = some (.slice a l[i].length c) ∧ Ints w a l[i]
/-- Cells stay, but for one. -/
def Stay (g : Nat) (w w' : World) : Prop := ∀ b o v, w.cell? ⟨b, o, none⟩ = some v → ¬ (b = g ∧ o = 5) → w'.cell? ⟨b, o, none⟩ = some v
theorem Kept.stay {w w' : World} (h : Kept w w') (g : Nat) : Stay g w w' := fun _ _ _ hc _ => h.cell hc
theorem Stay.trans {g : Nat} {a b c : World} (h : Stay g a b) (k : Stay g b c) : Stay g a c := fun x o v hc hn => k x o v (h x o v hc hn) hn
def Off (g : Nat) (ao : Option Addr) : Prop := ∀ x, ao = some x → x.block ≠ g
theorem Off.ne {g b off : Nat} (h : Off g (some ⟨b, off, none⟩)) : b ≠ g := h _ rfl
theorem Ints.stay {g : Nat} {w w' : World} {ao : Option Addr} {l : List Int} (h : Ints w ao l) (ho : Off g ao) (hk : Stay g w w') : Ints w' ao l := fun i hi => by
  obtain ⟨b, off, rfl, c⟩ := h i hi
  exact ⟨b, off, rfl, hk _ _ _ c fun e => ho.ne e.1⟩
theorem Pairs.stay {g : Nat} {w w' : World} {ao : Option Addr} {l : List Pt} (h : Pairs w ao l) (ho : Off g ao) (hk : Stay g w w') : Pairs w' ao l := fun i hi => by
  obtain ⟨b, off, rfl, c, d⟩ := h i hi
  exact ⟨b, off, rfl, hk _ _ _ c fun e => ho.ne e.1, hk _ _ _ d fun e => ho.ne e.1⟩
theorem Fives.stay {g : Nat} {w w' : World} {ao : Option Addr} {l : List Five} (h : Fives w ao l) (ho : Off g ao) (hk : Stay g w w') : Fives w' ao l := fun i hi => by
  obtain ⟨b, off, rfl, c0, c1, c2, c3, c4⟩ := h i hi
  have f : ∀ o v, w.cell? ⟨b, o, none⟩ = some v → w'.cell? ⟨b, o, none⟩ = some v := fun o v hc => hk _ _ _ hc fun e => ho.ne e.1
  exact ⟨b, off, rfl, f _ _ c0, f _ _ c1, f _ _ c2, f _ _ c3, f _ _ c4⟩
/-- Lists, all of them off a block. -/
def ListsO (g : Nat) (w : World) (ao : Option Addr) (l : List (List Int)) : Prop :=
  Off g ao ∧ ∀ i, (h : i < l.length) → ∃ b off, ao = some ⟨b, off, none⟩ ∧ ∃ a c, w.cell? ⟨b, off + i, none⟩ = some (.slice a l[i].length c) ∧ Ints w a l[i] ∧ Off g a
theorem ListsO.stay {g : Nat} {w w' : World} {ao : Option Addr} {l : List (List Int)} (h : ListsO g w ao l) (hk : Stay g w w') : ListsO g w' ao l := by
  refine ⟨h.1, fun i hi => ?_⟩
  obtain ⟨b, off, e, a, c, hc, hp, ho⟩ := h.2 i hi
  refine ⟨b, off, e, a, c, hk _ _ _ hc fun k => ?_, hp.stay ho hk, ho⟩
  exact h.1 _ e k.1
/-- A dart as it lies in memory. -/
def dartC (P : List Pt) (E : List (Nat × Nat)) (d : Nat) : Five := ((dDir (eS P E) d).1, (dDir (eS P E) d).2, d, dTail E d, dHead E d)
def dartL (P : List Pt) (E : List (Nat × Nat)) : List Five := (List.range (2 * E.length)).map (dartC P E)
def natL (l : List Nat) : List Int := l.map fun x : Nat => (x : Int)
def outL (P : List Pt) (E : List (Nat × Nat)) : List (List Int) := (List.range P.length).map fun p => natL (outF P E p)
/-- The web: its points, darts, and the darts about each point. -/
structure WebC (W : World) (g : Nat) (P : List Pt) (E : List (Nat × Nat)) : Prop where
  pts : ∃ a c, W.cell? ⟨g, 0, none⟩ = some (.slice a P.length c) ∧ Pairs W a P ∧ Off g a
  all : ∃ a c, W.cell? ⟨g, 3, none⟩ = some (.slice a (2 * E.length) c) ∧ Fives W a (dartL P E) ∧ Off g a
  out : ∃ a c, W.cell? ⟨g, 4, none⟩ = some (.slice a P.length c) ∧ ListsO g W a (outL P E)
theorem WebC.stay {g : Nat} {w w' : World} {P : List Pt} {E : List (Nat × Nat)} (h : WebC w g P E) (hk : Stay g w w') : WebC w' g P E := by
  obtain ⟨⟨a, c, h1, h2, h3⟩, ⟨a', c', h4, h5, h6⟩, ⟨a2, c2, h7, h8⟩⟩ := h
  exact ⟨⟨a, c, hk _ _ _ h1 (by omega), h2.stay h3 hk, h3⟩, ⟨a', c', hk _ _ _ h4 (by omega), h5.stay h6 hk, h6⟩, ⟨a2, c2, hk _ _ _ h7 (by omega), h8.stay hk⟩⟩
theorem WebC.kept {g : Nat} {w w' : World} {P : List Pt} {E : List (Nat × Nat)} (h : WebC w g P E) (hk : Kept w w') : WebC w' g P E := h.stay (hk.stay g)
theorem dartL_len (P : List Pt) (E : List (Nat × Nat)) : (dartL P E).length = 2 * E.length := by unfold dartL; simp
theorem outL_len (P : List Pt) (E : List (Nat × Nat)) : (outL P E).length = P.length := by unfold outL; simp
/-- A dart's cells. -/
theorem WebC.dart {g : Nat} {w : World} {P : List Pt} {E : List (Nat × Nat)} (h : WebC w g P E) {d : Nat} (hd : d < 2 * E.length) : ∃ b off c, w.cell? ⟨g, 3, none⟩ = some (.slice (some ⟨b, off, none⟩) (2 * E.length) c) ∧
    w.cell? ⟨b, off + d * 5, none⟩ = some (.int .i64 (dDir (eS P E) d).1) ∧ w.cell? ⟨b, off + d * 5 + 1, none⟩ = some (.int .i64 (dDir (eS P E) d).2) ∧ w.cell? ⟨b, off + d * 5 + 3, none⟩ = some (.int .i64 (dTail E d)) ∧ w.cell? ⟨b, off + d * 5 + 4, none⟩ = some (.int .i64 (dHead E d)) := by
  obtain ⟨a, c, h4, h5, -⟩ := h.all
  obtain ⟨b, off, rfl, c0, c1, -, c3, c4⟩ := h5 d (by rw [dartL_len]; exact hd)
  unfold dartL at c0 c1 c3 c4
  rw [List.getElem_map, List.getElem_range] at c0 c1 c3 c4
  exact ⟨b, off, c, h4, c0, c1, c3, c4⟩
/-- A point's cells. -/
theorem WebC.pt {g : Nat} {w : World} {P : List Pt} {E : List (Nat × Nat)} (h : WebC w g P E) {i : Nat} (hi : i < P.length) : ∃ b off c, w.cell? ⟨g, 0, none⟩ = some (.slice (some ⟨b, off, none⟩) P.length c) ∧
    w.cell? ⟨b, off + i * 2, none⟩ = some (.int .i64 (P.getD i (0, 0)).1) ∧ w.cell? ⟨b, off + i * 2 + 1, none⟩ = some (.int .i64 (P.getD i (0, 0)).2) := by
  obtain ⟨a, c, h4, h5, -⟩ := h.pts
  obtain ⟨b, off, rfl, c0, c1⟩ := h5 i hi
  have e : P.getD i (0, 0) = P[i] := by rw [List.getD_eq_getElem?_getD, List.getElem?_eq_getElem hi]; rfl
  exact ⟨b, off, c, h4, by rw [e]; exact c0, by rw [e]; exact c1⟩
/-- The darts about a point. -/
theorem WebC.outs {g : Nat} {w : World} {P : List Pt} {E : List (Nat × Nat)} (h : WebC w g P E) {p : Nat} (hp : p < P.length) : ∃ b off c a' c', w.cell? ⟨g, 4, none⟩ = some (.slice (some ⟨b, off, none⟩) P.length c) ∧
    w.cell? ⟨b, off + p, none⟩ = some (.slice a' (natL (outF P E p)).length c') ∧ Ints w a' (natL (outF P E p)) := by
  obtain ⟨a, c, h4, h5⟩ := h.out
  obtain ⟨b, off, e, a', c', h6, h7, -⟩ := h5.2 p (by rw [outL_len]; exact hp)
  subst e
  unfold outL at h6 h7
  rw [List.getElem_map, List.getElem_range] at h6 h7
  exact ⟨b, off, c, a', c', h4, h6, h7⟩
end Go.Proofs.YtlglfcdobbocnaaGreat
