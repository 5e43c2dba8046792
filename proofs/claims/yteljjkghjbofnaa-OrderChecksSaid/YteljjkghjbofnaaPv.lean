/- The chapter's example: what the functions return for it. -/
import Derived.Test.YteljjkghjbofnaaXe
import Derived.Test.YteljjkghjbofnaaWz
import Derived.Test.YteljjkghjbofnaaWr
set_option maxRecDepth 100000
namespace Go.Proofs.Yteljjkghjbofnaa
open Go Go.Proofs Go.RowKit

def roundP : Prob := ⟨4, [(0, 1), (0, 2), (1, 3), (3, 0)], [(0, 1), (1, 2), (2, 3)]⟩
theorem s_errS : errS sampleP = 0 := by decide +kernel
theorem s_n : (webOf sampleP).n = 4 := by decide +kernel
theorem s_first : FirstR sampleP = ([0, 1, 2, 3], 0) := by decide +kernel
theorem s_count : CountR sampleP = (3, 0) := by decide +kernel
theorem s_days : DaysR sampleP 2 [0, 1, 2, 3] = ([0, 3, 6, 9], 0) := by decide +kernel
theorem s_rsn : ReasonsR sampleP 2 [0, 1, 2, 3] = ([(3, 2, 2), (2, 1, 2), (1, 0, 2), (0, -1, 0)], 0) := by decide +kernel
theorem s_free : FreeR sampleP = ([1, 2], 0) := by decide +kernel
theorem s_nth : NthR sampleP 1 = ([0, 1, 3, 2], 0) := by decide +kernel
theorem s_circle : circleL roundP = [0, 1, 3] := by decide +kernel
theorem s_stand1 : standP sampleP 0 3 = 1 := by decide +kernel
theorem s_stand2 : standP sampleP 3 1 = 2 := by decide +kernel
theorem s_orders : ordersL (webOf sampleP) = [[0, 1, 2, 3], [0, 1, 3, 2], [0, 2, 1, 3]] := by decide +kernel
theorem s_wait (q : List (List Int)) (hq : q <+: ordersL (webOf sampleP)) (h : q = ordersL (webOf sampleP) ∨ (waitAll (webOf sampleP) 2 q).1 = (webOf sampleP).n - 1) : (waitAll (webOf sampleP) 2 q).2 = ([0, 2, 1, 3], [0, 4, 1, 5]) := by
  rw [s_orders] at hq h
  rw [s_n] at h
  obtain ⟨t, ht⟩ := hq
  match q, ht with
  | [], _ => exact absurd h (by decide +kernel)
  | [a], ht =>
    simp only [List.cons_append, List.nil_append, List.cons.injEq] at ht
    obtain ⟨rfl, _⟩ := ht
    exact absurd h (by decide +kernel)
  | [a, b], ht =>
    simp only [List.cons_append, List.nil_append, List.cons.injEq] at ht
    obtain ⟨rfl, rfl, _⟩ := ht
    exact absurd h (by decide +kernel)
  | [a, b, c], ht =>
    simp only [List.cons_append, List.nil_append, List.cons.injEq] at ht
    obtain ⟨rfl, rfl, rfl, _⟩ := ht
    decide +kernel
  | a :: b :: c :: d :: q, ht => simp at ht

theorem lit4 (X : World) (a b c d : Int) : Ints (X.alloc (.cells #[.int .i64 a, .int .i64 b, .int .i64 c, .int .i64 d] 3)) (some ⟨X.heap.size, 0, none⟩) [a, b, c, d] := by
  intro i hi
  refine ⟨X.heap.size, 0, rfl, ?_⟩
  rw [cell_of_row _ _ _ _ _ _ (heap_alloc_new X (.cells #[.int .i64 a, .int .i64 b, .int .i64 c, .int .i64 d] 3)), Nat.zero_add]
  match i, hi with
  | 0, _ => rfl
  | 1, _ => rfl
  | 2, _ => rfl
  | 3, _ => rfl
theorem lit3 (X : World) (a b c : Int) : Ints (X.alloc (.cells #[.int .i64 a, .int .i64 b, .int .i64 c] 3)) (some ⟨X.heap.size, 0, none⟩) [a, b, c] := by
  intro i hi
  refine ⟨X.heap.size, 0, rfl, ?_⟩
  rw [cell_of_row _ _ _ _ _ _ (heap_alloc_new X (.cells #[.int .i64 a, .int .i64 b, .int .i64 c] 3)), Nat.zero_add]
  match i, hi with
  | 0, _ => rfl
  | 1, _ => rfl
  | 2, _ => rfl
theorem lit2 (X : World) (a b : Int) : Ints (X.alloc (.cells #[.int .i64 a, .int .i64 b] 3)) (some ⟨X.heap.size, 0, none⟩) [a, b] := by
  intro i hi
  refine ⟨X.heap.size, 0, rfl, ?_⟩
  rw [cell_of_row _ _ _ _ _ _ (heap_alloc_new X (.cells #[.int .i64 a, .int .i64 b] 3)), Nat.zero_add]
  match i, hi with
  | 0, _ => rfl
  | 1, _ => rfl
theorem pairs3 (X : World) (a b c d e f : Int) : Pairs (X.alloc (.cells #[.int .i64 a, .int .i64 b, .int .i64 c, .int .i64 d, .int .i64 e, .int .i64 f] 83)) (some ⟨X.heap.size, 0, none⟩) [(a, b), (c, d), (e, f)] := by
  intro i hi
  refine ⟨X.heap.size, 0, rfl, ?_, ?_⟩ <;> rw [cell_of_row _ _ _ _ _ _ (heap_alloc_new X (.cells #[.int .i64 a, .int .i64 b, .int .i64 c, .int .i64 d, .int .i64 e, .int .i64 f] 83)), Nat.zero_add] <;>
  match i, hi with
  | 0, _ => rfl
  | 1, _ => rfl
  | 2, _ => rfl

theorem load24 {w : World} {k : Nat} {v0 v1 v2 : Value} (h0 : w.cell? ⟨k, 0, none⟩ = some v0) (h1 : w.cell? ⟨k, 1, none⟩ = some v1) (h2 : w.cell? ⟨k, 2, none⟩ = some v2) : (loadVar 24 ⟨k, 0, none⟩).run Try.prog w = .ok (.agg #[v0, v1, v2]) w := by
  simp [go_sem, h0, h1, h2]

set_option maxHeartbeats 400000 in
theorem sample_any (w : World) : Calls Try.prog 74 #[] w (fun e w' => ∃ ga gb, e = .returned (probV sampleP (some ⟨ga, 0, none⟩) 3 (some ⟨gb, 0, none⟩) 3) ∧ IsProb w' sampleP (some ⟨ga, 0, none⟩) (some ⟨gb, 0, none⟩) ∧ Kept w w') := by
  go_enter Try.func74, Try.ntmps74
  go_wp2
  have p1 := (pairs3 (w.alloc (.cells #[.int .i64 4, .slice (some ⟨w.heap.size + 1, 0, none⟩) 3 3, .slice (some ⟨w.heap.size + 1 + 1, 0, none⟩) 3 3] 24)) 0 1 0 2 1 3).kept ((Kept.refl _).alloc (.cells #[.int .i64 0, .int .i64 1, .int .i64 1, .int .i64 2, .int .i64 2, .int .i64 3] 83))
  have p2 := pairs3 ((w.alloc (.cells #[.int .i64 4, .slice (some ⟨w.heap.size + 1, 0, none⟩) 3 3, .slice (some ⟨w.heap.size + 1 + 1, 0, none⟩) 3 3] 24)).alloc (.cells #[.int .i64 0, .int .i64 1, .int .i64 0, .int .i64 2, .int .i64 1, .int .i64 3] 83)) 0 1 1 2 2 3
  have hk : Kept w (((w.alloc (.cells #[.int .i64 4, .slice (some ⟨w.heap.size + 1, 0, none⟩) 3 3, .slice (some ⟨w.heap.size + 1 + 1, 0, none⟩) 3 3] 24)).alloc (.cells #[.int .i64 0, .int .i64 1, .int .i64 0, .int .i64 2, .int .i64 1, .int .i64 3] 83)).alloc (.cells #[.int .i64 0, .int .i64 1, .int .i64 1, .int .i64 2, .int .i64 2, .int .i64 3] 83)) := (((Kept.refl w).alloc _).alloc _).alloc _
  have hc : ∀ i v, (#[Value.int .i64 4, .slice (some ⟨w.heap.size + 1, 0, none⟩) 3 3, .slice (some ⟨w.heap.size + 1 + 1, 0, none⟩) 3 3] : Array Value)[i]? = some v → (((w.alloc (.cells #[.int .i64 4, .slice (some ⟨w.heap.size + 1, 0, none⟩) 3 3, .slice (some ⟨w.heap.size + 1 + 1, 0, none⟩) 3 3] 24)).alloc (.cells #[.int .i64 0, .int .i64 1, .int .i64 0, .int .i64 2, .int .i64 1, .int .i64 3] 83)).alloc (.cells #[.int .i64 0, .int .i64 1, .int .i64 1, .int .i64 2, .int .i64 2, .int .i64 3] 83)).cell? ⟨w.heap.size, i, none⟩ = some v := fun i v h =>
    (((Kept.refl _).alloc _).alloc _).cell (by rw [cell_of_row _ _ _ _ _ _ (heap_alloc_new w _)]; exact h)
  have e1 : (w.alloc (.cells #[.int .i64 4, .slice (some ⟨w.heap.size + 1, 0, none⟩) 3 3, .slice (some ⟨w.heap.size + 1 + 1, 0, none⟩) 3 3] 24)).heap.size = w.heap.size + 1 := by simp
  have e2 : ((w.alloc (.cells #[.int .i64 4, .slice (some ⟨w.heap.size + 1, 0, none⟩) 3 3, .slice (some ⟨w.heap.size + 1 + 1, 0, none⟩) 3 3] 24)).alloc (.cells #[.int .i64 0, .int .i64 1, .int .i64 0, .int .i64 2, .int .i64 1, .int .i64 3] 83)).heap.size = w.heap.size + 1 + 1 := by simp
  rw [e1] at p1
  rw [e2] at p2
  refine bodyPost_ret (results_cell rfl _ _ ⟨w.heap.size, 0, none⟩ rfl _ (load24 (hc 0 _ rfl) (hc 1 _ rfl) (hc 2 _ rfl))) rfl ?_
  exact ⟨w.heap.size + 1, w.heap.size + 1 + 1, rfl, ⟨p1, p2, by decide, by decide⟩, hk⟩

theorem pairs_flat {X : World} {g : Nat} {l : List (Int × Int)} (h : Pairs X (some ⟨g, 0, none⟩) l) : ∀ j u, (l.flatMap pairC)[j]? = some u → X.cell? ⟨g, j, none⟩ = some u := by
  intro j u hu
  have hj := (List.getElem?_eq_some_iff.1 hu).1
  rw [flatMap_len (size := 2) (fun _ => rfl)] at hj
  have hi : j / 2 < l.length := by omega
  have e : j = j / 2 * 2 + j % 2 := by omega
  rw [e, flatMap_get (size := 2) (fun _ => rfl) l (j / 2) (j % 2) hi (by omega)] at hu
  obtain ⟨b, off, e2, h1, h2⟩ := h (j / 2) hi
  simp only [Option.some.injEq, Addr.mk.injEq] at e2
  obtain ⟨rfl, rfl, -⟩ := e2
  rw [Nat.zero_add] at h1 h2
  rcases Nat.mod_two_eq_zero_or_one j with hm | hm
  · rw [hm] at hu
    rw [e, hm, Nat.add_zero, h1]
    simpa [pairC] using hu
  · rw [hm] at hu
    rw [e, hm, h2]
    simpa [pairC] using hu
theorem OwnG.pairs {X : World} {base g c n : Nat} {l : List (Int × Int)} (h : OwnG X base 83 2 pairC (.slice (some ⟨g, 0, none⟩) n c) l) : Pairs X (some ⟨g, 0, none⟩) l := by
  intro i hi
  rcases h.slice (fun _ => rfl) with ⟨_, h⟩ | ⟨g', c', e, _, _, _, _, hc⟩
  · cases h
  · simp only [Value.slice.injEq, Option.some.injEq, Addr.mk.injEq] at e
    obtain ⟨⟨rfl, -⟩, -⟩ := e
    exact ⟨g, 0, rfl, by rw [Nat.zero_add]; simpa using hc i hi 0 _ rfl, by rw [Nat.zero_add]; exact hc i hi 1 _ rfl⟩
end Go.Proofs.Yteljjkghjbofnaa
