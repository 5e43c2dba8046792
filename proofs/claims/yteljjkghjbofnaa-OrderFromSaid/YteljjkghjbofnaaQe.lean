/- The map from cells to the patches that have them. -/
import Derived.Test.YteljjkghjbofnaaQd
import Derived.Test.YteljjkghjbofnaaQa
import Derived.Maps.GroupsBeside
set_option maxRecDepth 100000
namespace Go.Proofs.Yteljjkghjbofnaa
open Go Go.Proofs Go.RowKit
open Go.Maps (Keyed)
open Go.WideElems (Fit rd rg pl rd_val elemAt)
open Go.ChangeShapes Go.MapKept
attribute [local go_sem] Oper.semAt_some

theorem keyed3 : Keyed Try.prog 3 := Maps.int_keyed Try.underlying3
/-- What is at the cell c. -/
def datG (D : DataW Unit) (c : Int) (l : List Int) : Prop := (D.atKey (.int .i64 c) .nil = .nil ∧ l = []) ∨ D.atKey (.int .i64 c) .nil = .slice (lits .i64 l) []
theorem lits_inj {l m : List Int} (h : (lits .i64 l : List (DataW Unit)) = lits .i64 m) : l = m := (List.map_inj_right (fun a b hab => by cases hab; rfl)).1 h
theorem datG.eq {D : DataW Unit} {c : Int} {l zs : List Int} {X : World} {base : Nat} {v : Value} (h : datG D c l) (hat : D.atKey (.int .i64 c) .nil = rowDatum .i64 v zs) (ho : X.ownsInts base 3 .i64 v zs) : l = zs := by
  rcases h with ⟨h1, rfl⟩ | h1
  · rcases ho.datum (H := Unit) with ⟨_, h0⟩ | h2
    · exact h0.symm
    · rw [hat, h2] at h1; cases h1
  · rcases ho.datum (H := Unit) with ⟨h2, h0⟩ | h2
    · rw [hat, h2] at h1; cases h1
    · rw [hat, h2] at h1
      simp only [DataW.slice.injEq, and_true] at h1
      exact (lits_inj h1).symm
theorem datG.same {D : DataW Unit} {c : Int} {zs : List Int} {X : World} {base : Nat} {v : Value} (hm : Maps.IsMap D) (ho : X.ownsInts base 3 .i64 v zs) : datG (D.put (.int .i64 c) (rowDatum .i64 v zs)) c zs := by
  unfold datG
  rw [Maps.atKey_put_same hm (show WideAt.IsKeyLit (.int .i64 c) from trivial)]
  exact ho.datum
theorem datG.other {D : DataW Unit} {c c' : Int} {l : List Int} {d : DataW Unit} (hne : c' ≠ c) (h : datG D c' l) : datG (D.put (.int .i64 c) d) c' l := by
  unfold datG
  rw [Maps.atKey_put_other (fun e => hne (by cases e; rfl))]
  exact h
/-- Block b is a map that holds the list f c at each cell c. -/
def GMap (X : World) (base b n : Nat) (f : Int → List Int) : Prop := ∃ D : DataW Unit, X.ownsGroups Try.prog 3 base 3 .i64 b n D ∧ ∀ c, wfI c → datG D c (f c)
theorem GMap.made (X : World) : GMap (X.alloc (.map #[] 0)) (X.heap.size + 1) X.heap.size 0 (fun _ => []) :=
  ⟨.map [], World.ownsGroups_made X Try.prog 3 3 .i64, fun _ _ => .inl ⟨rfl, rfl⟩⟩
/-- It stays while what is there stays. -/
theorem groups_kept {X Y : World} {base b n : Nat} {D : DataW Unit} (h : X.ownsGroups Try.prog 3 base 3 .i64 b n D) (hk : Kept X Y) : Y.ownsGroups Try.prog 3 base 3 .i64 b n D := by
  obtain ⟨es, clock, hb, F, hs, rfl, hbb, hlen, hap⟩ := h
  have hblt : b < X.heap.size := (Array.getElem?_eq_some_iff.1 hb).1
  have keep : ∀ v zs, X.ownsInts base 3 .i64 v zs → Y.ownsInts base 3 .i64 v zs := fun v zs ho => ⟨by
    have h1 : OwnI X base v zs := ho.1
    exact h1.kept hk, ho.2⟩
  have hst : ∀ x ∈ es.toList, ∀ z, rowElem (H := Unit) X base 3 .i64 x.val = some z → rowElem Y base 3 .i64 x.val = some z := fun x hx z hz => by
    obtain ⟨zs, ho, rfl⟩ := rowElem_inv hz
    exact rowElem_mk (keep _ _ ho)
  obtain ⟨F1, hmap, _⟩ := F.stay hst
  refine ⟨es, clock, (hk.below.block b hblt).trans hb, F1, hs, by rw [hmap], hbb, fun x hx zs ho => ?_, hap⟩
  obtain ⟨y, hy⟩ := F.reads x hx
  obtain ⟨z, hz, _⟩ := rd_val hy
  obtain ⟨zs0, ho0, _⟩ := rowElem_inv hz
  rw [ho.unique (keep _ _ ho0)]
  exact hlen x hx zs0 ho0
theorem GMap.kept {X Y : World} {base b n : Nat} {f : Int → List Int} (h : GMap X base b n f) (hk : Kept X Y) : GMap Y base b n f := by
  obtain ⟨D, h1, h2⟩ := h
  exact ⟨D, groups_kept h1 hk, h2⟩
end Go.Proofs.Yteljjkghjbofnaa
