/- Plain law of OrderFrom: what From returns is a valid problem. -/
import Derived.Test.YteljjkghjbofnaaQf
set_option maxRecDepth 100000
namespace Go.Proofs.Yteljjkghjbofnaa
open Go Go.Proofs Go.RowKit

theorem owP_lt {chs : List (List Int)} {c : Int} : ∀ i, i ≤ chs.length → ∀ y ∈ owP chs c i, 0 ≤ y ∧ y < (chs.length : Int)
  | 0, _, y, h => by simp [owP] at h
  | i + 1, hi, y, h => by
    rw [owP_succ (by omega)] at h
    rcases List.mem_append.1 h with h | h
    · exact owP_lt i (by omega) y h
    · unfold ow1 at h
      obtain ⟨_, _, rfl⟩ := List.mem_map.1 h
      omega
theorem ownR_lt {chs : List (List Int)} {c : Int} (h : 0 ≤ ownR chs c) : ownR chs c < (chs.length : Int) := by
  unfold ownR at h ⊢
  split at h
  · rename_i h1
    rw [if_pos h1]
    have hm := owP_lt (chs := chs) (c := c) chs.length (Nat.le_refl _)
    generalize owP chs c chs.length = L at *
    match L, h1 with
    | [y], _ => simpa [lastO] using (hm y (by simp)).2
  · omega
/-- A pair of two different patches. -/
def goodP (n : Nat) (x : Int × Int) : Prop := 0 ≤ x.1 ∧ x.1 < (n : Int) ∧ 0 ≤ x.2 ∧ x.2 < (n : Int) ∧ x.1 ≠ x.2
theorem foldA_good (chs : List (List Int)) : ∀ (l : List Seam) (A : List (Int × Int)), (∀ x ∈ l, okF chs x = true) → (∀ y ∈ A, goodP chs.length y) → ∀ y ∈ l.foldl (arcsF chs) A, goodP chs.length y
  | [], _, _, h => h
  | x :: l, A, hl, h => foldA_good chs l _ (fun z hz => hl z (List.mem_cons_of_mem _ hz)) (by
    have hx := of_decide_eq_true (hl x (List.mem_cons_self ..))
    have h1 := ownR_lt hx.1
    have h2 := ownR_lt hx.2.1
    unfold arcsF
    split
    · exact h
    · rename_i hne
      have g1 : ∀ y ∈ arcF1 chs A x, goodP chs.length y := by
        unfold arcF1
        split
        · intro y hy
          rcases (insP_mem _ _ _).1 hy with hy | rfl
          · exact h y hy
          · exact ⟨hx.1, h1, hx.2.1, h2, hne⟩
        · exact h
      unfold arcF2
      split
      · intro y hy
        rcases (insP_mem _ _ _).1 hy with hy | rfl
        · exact g1 y hy
        · exact ⟨hx.2.1, h2, hx.1, h1, fun e => hne e.symm⟩
      · exact g1)
theorem foldN_good (chs : List (List Int)) : ∀ (l : List Seam) (A : List (Int × Int)), (∀ x ∈ l, okF chs x = true) → (∀ y ∈ A, goodP chs.length y ∧ y.1 < y.2) → ∀ y ∈ l.foldl (nearF chs) A, goodP chs.length y ∧ y.1 < y.2
  | [], _, _, h => h
  | x :: l, A, hl, h => foldN_good chs l _ (fun z hz => hl z (List.mem_cons_of_mem _ hz)) (by
    have hx := of_decide_eq_true (hl x (List.mem_cons_self ..))
    have h1 := ownR_lt hx.1
    have h2 := ownR_lt hx.2.1
    unfold nearF
    split
    · exact h
    · rename_i hne
      intro y hy
      rcases (insP_mem _ _ _).1 hy with hy | rfl
      · exact h y hy
      · simp only [goodP]
        omega)
theorem badB_good {n : Nat} {x : Int × Int} (h : goodP n x) : badB (n : Int) x.1 x.2 = false := by
  obtain ⟨a, b, c, d, e⟩ := h
  unfold badB
  simp only [Bool.or_eq_false_iff, decide_eq_false_iff_not]
  omega
theorem from_chk {l : List Seam} {chs : List (List Int)} (h : (FromF l chs).2 = 0) : chk (FromF l chs).1 = 0 := by
  unfold FromF at h ⊢
  split
  · rename_i h1; rw [if_pos h1] at h; cases h
  · rename_i h1
    rw [if_neg h1] at h
    split
    · rename_i h2
      rw [List.all_eq_true] at h2
      have gA := foldA_good chs l [] h2 (fun y hy => by cases hy)
      have gB := foldN_good chs l [] h2 (fun y hy => by cases hy)
      unfold chk
      rw [if_neg (by show ¬ (24 : Int) < (chs.length : Int); omega), if_neg]
      rintro (h3 | h3 | h3 | h3 | h3 | h3)
      · have : (chs.length : Int) < 0 := h3; omega
      · obtain ⟨y, hy, hb⟩ := List.any_eq_true.1 h3
        rw [badB_good (gA y hy)] at hb; cases hb
      · obtain ⟨y, hy, hb⟩ := List.any_eq_true.1 h3
        rw [badB_good (gB y hy).1] at hb; cases hb
      · rw [risB_pw.2 (foldA_lt chs l [] List.Pairwise.nil)] at h3; cases h3
      · rw [risB_pw.2 (foldN_lt chs l [] List.Pairwise.nil)] at h3; cases h3
      · obtain ⟨y, hy, hb⟩ := List.any_eq_true.1 h3
        have := (gB y hy).2
        have hb' := of_decide_eq_true hb
        omega
    · rename_i h2; rw [if_neg h2] at h; cases h
theorem from_len (l : List Seam) (chs : List (List Int)) (hl : l.length ≤ 100) : (FromF l chs).1.arcs.length ≤ 200 ∧ (FromF l chs).1.near.length ≤ 100 := by
  unfold FromF
  split
  · simp
  · split
    · have h1 := arcsF_len chs l l.length
      have h2 := nearF_len chs l l.length
      rw [List.take_length] at h1 h2
      exact ⟨by show (l.foldl (arcsF chs) []).length ≤ 200; omega, by show (l.foldl (nearF chs) []).length ≤ 100; omega⟩
    · simp
end Go.Proofs.Yteljjkghjbofnaa
