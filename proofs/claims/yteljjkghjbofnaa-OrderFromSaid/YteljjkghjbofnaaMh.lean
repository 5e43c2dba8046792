/- The chapter's example: what the functions return for it. -/
import Derived.Test.YteljjkghjbofnaaMg
import Derived.Test.YteljjkghjbofnaaMf
import Derived.Test.YteljjkghjbofnaaMc
import Derived.Test.YteljjkghjbofnaaMe
/-! The chapter's example: what the functions return for it. -/
set_option maxRecDepth 100000
namespace Go.Proofs.Yteljjkghjbofnaa
open Go Go.Proofs Go.RowKit

def roundP : Prob := ⟨4, [(0, 1), (0, 2), (1, 3), (3, 0)], [(0, 1), (1, 2), (2, 3)]⟩
theorem s_errS : errS sampleP = 0 := by decide +kernel
theorem s_n : (webOf sampleP).n = 4 := by decide +kernel
theorem s_first : FirstR sampleP = ([0, 1, 2, 3], 0) := by decide +kernel
theorem s_count : CountR sampleP = (3, 0) := by decide +kernel
theorem s_days : DaysR sampleP 2 [0, 1, 2, 3] = ([0, 3, 6, 9], 0) := by decide +kernel
theorem s_rsn : ReasonsR sampleP 2 [0, 1, 2, 3] = ([(3, 2, 2), (2, 1, 2), (1, 0, 2), (0, -1, 0)], 0) := by decide +kernel
theorem s_free : FreeR sampleP = ([1, 2], 0) := by decide +kernel
theorem s_nth : NthR sampleP 1 = ([0, 1, 3, 2], 0) := by decide +kernel
theorem s_circle : circleL roundP = [0, 1, 3] := by decide +kernel
theorem s_stand1 : standP sampleP 0 3 = 1 := by decide +kernel
theorem s_stand2 : standP sampleP 3 1 = 2 := by decide +kernel
theorem s_orders : ordersL (webOf sampleP) = [[0, 1, 2, 3], [0, 1, 3, 2], [0, 2, 1, 3]] := by decide +kernel
theorem s_wait (q : List (List Int)) (hq : q <+: ordersL (webOf sampleP)) (h : q = ordersL (webOf sampleP) ∨ (waitAll (webOf sampleP) 2 q).1 = (webOf sampleP).n - 1) : (waitAll (webOf sampleP) 2 q).2 = ([0, 2, 1, 3], [0, 4, 1, 5]) := by
  rw [s_orders] at hq h
  rw [s_n] at h
  obtain ⟨t, ht⟩ := hq
  match q, ht with
  | [], _ => exact absurd h (by decide +kernel)
  | [a], ht =>
    simp only [List.cons_append, List.nil_append, List.cons.injEq] at ht
    obtain ⟨rfl, _⟩ := ht
    exact absurd h (by decide +kernel)
  | [a, b], ht =>
    simp only [List.cons_append, List.nil_append, List.cons.injEq] at ht
    obtain ⟨rfl, rfl, _⟩ := ht
    exact absurd h (by decide +kernel)
  | [a, b, c], ht =>
    simp only [List.cons_append, List.nil_append, List.cons.injEq] at ht
    obtain ⟨rfl, rfl, rfl, _⟩ := ht
    decide +kernel
  | a :: b :: c :: d :: q, ht => simp at ht

theorem lit4 (X : World) (a b c d : Int) : Ints (X.alloc (.cells #[.int .i64 a, .int .i64 b, .int .i64 c, .int .i64 d] 3)) (some ⟨X.heap.size, 0, none⟩) [a, b, c, d] := by
  intro i hi
  refine ⟨X.heap.size, 0, rfl, ?_⟩
  rw [cell_of_row _ _ _ _ _ _ (heap_alloc_new X (.cells #[.int .i64 a, .int .i64 b, .int .i64 c, .int .i64 d] 3)), Nat.zero_add]
  match i, hi with
  | 0, _ => rfl
  | 1, _ => rfl
  | 2, _ => rfl
  | 3, _ => rfl
theorem lit3 (X : World) (a b c : Int) : Ints (X.alloc (.cells #[.int .i64 a, .int .i64 b, .int .i64 c] 3)) (some ⟨X.heap.size, 0, none⟩) [a, b, c] := by
  intro i hi
  refine ⟨X.heap.size, 0, rfl, ?_⟩
  rw [cell_of_row _ _ _ _ _ _ (heap_alloc_new X (.cells #[.int .i64 a, .int .i64 b, .int .i64 c] 3)), Nat.zero_add]
  match i, hi with
  | 0, _ => rfl
  | 1, _ => rfl
  | 2, _ => rfl
theorem lit2 (X : World) (a b : Int) : Ints (X.alloc (.cells #[.int .i64 a, .int .i64 b] 3)) (some ⟨X.heap.size, 0, none⟩) [a, b] := by
  intro i hi
  refine ⟨X.heap.size, 0, rfl, ?_⟩
  rw [cell_of_row _ _ _ _ _ _ (heap_alloc_new X (.cells #[.int .i64 a, .int .i64 b] 3)), Nat.zero_add]
  match i, hi with
  | 0, _ => rfl
  | 1, _ => rfl
theorem pairs3 (X : World) (a b c d e f : Int) : Pairs (X.alloc (.cells #[.int .i64 a, .int .i64 b, .int .i64 c, .int .i64 d, .int .i64 e, .int .i64 f] 83)) (some ⟨X.heap.size, 0, none⟩) [(a, b), (c, d), (e, f)] := by
  intro i hi
  refine ⟨X.heap.size, 0, rfl, ?_, ?_⟩ <;> rw [cell_of_row _ _ _ _ _ _ (heap_alloc_new X (.cells #[.int .i64 a, .int .i64 b, .int .i64 c, .int .i64 d, .int .i64 e, .int .i64 f] 83)), Nat.zero_add] <;>
  match i, hi with
  | 0, _ => rfl
  | 1, _ => rfl
  | 2, _ => rfl

theorem load24 {w : World} {k : Nat} {v0 v1 v2 : Value} (h0 : w.cell? ⟨k, 0, none⟩ = some v0) (h1 : w.cell? ⟨k, 1, none⟩ = some v1) (h2 : w.cell? ⟨k, 2, none⟩ = some v2) : (loadVar 24 ⟨k, 0, none⟩).run Try.prog w = .ok (.agg #[v0, v1, v2]) w := by
  simp [go_sem, h0, h1, h2]

set_option maxHeartbeats 400000 in
theorem sample_any (w : World) : Calls Try.prog 74 #[] w (fun e w' => ∃ ga gb, e = .returned (probV sampleP (some ⟨ga, 0, none⟩) 3 (some ⟨gb, 0, none⟩) 3) ∧ IsProb w' sampleP (some ⟨ga, 0, none⟩) (some ⟨gb, 0, none⟩) ∧ Kept w w') := by
  go_enter Try.func74, Try.ntmps74
  go_wp2
  have p1 := (pairs3 (w.alloc (.cells #[.int .i64 4, .slice (some ⟨w.heap.size + 1, 0, none⟩) 3 3, .slice (some ⟨w.heap.size + 1 + 1, 0, none⟩) 3 3] 24)) 0 1 0 2 1 3).kept ((Kept.refl _).alloc (.cells #[.int .i64 0, .int .i64 1, .int .i64 1, .int .i64 2, .int .i64 2, .int .i64 3] 83))
  have p2 := pairs3 ((w.alloc (.cells #[.int .i64 4, .slice (some ⟨w.heap.size + 1, 0, none⟩) 3 3, .slice (some ⟨w.heap.size + 1 + 1, 0, none⟩) 3 3] 24)).alloc (.cells #[.int .i64 0, .int .i64 1, .int .i64 0, .int .i64 2, .int .i64 1, .int .i64 3] 83)) 0 1 1 2 2 3
  have hk : Kept w (((w.alloc (.cells #[.int .i64 4, .slice (some ⟨w.heap.size + 1, 0, none⟩) 3 3, .slice (some ⟨w.heap.size + 1 + 1, 0, none⟩) 3 3] 24)).alloc (.cells #[.int .i64 0, .int .i64 1, .int .i64 0, .int .i64 2, .int .i64 1, .int .i64 3] 83)).alloc (.cells #[.int .i64 0, .int .i64 1, .int .i64 1, .int .i64 2, .int .i64 2, .int .i64 3] 83)) := (((Kept.refl w).alloc _).alloc _).alloc _
  have hc : ∀ i v, (#[Value.int .i64 4, .slice (some ⟨w.heap.size + 1, 0, none⟩) 3 3, .slice (some ⟨w.heap.size + 1 + 1, 0, none⟩) 3 3] : Array Value)[i]? = some v → (((w.alloc (.cells #[.int .i64 4, .slice (some ⟨w.heap.size + 1, 0, none⟩) 3 3, .slice (some ⟨w.heap.size + 1 + 1, 0, none⟩) 3 3] 24)).alloc (.cells #[.int .i64 0, .int .i64 1, .int .i64 0, .int .i64 2, .int .i64 1, .int .i64 3] 83)).alloc (.cells #[.int .i64 0, .int .i64 1, .int .i64 1, .int .i64 2, .int .i64 2, .int .i64 3] 83)).cell? ⟨w.heap.size, i, none⟩ = some v := fun i v h =>
    (((Kept.refl _).alloc _).alloc _).cell (by rw [cell_of_row _ _ _ _ _ _ (heap_alloc_new w _)]; exact h)
  have e1 : (w.alloc (.cells #[.int .i64 4, .slice (some ⟨w.heap.size + 1, 0, none⟩) 3 3, .slice (some ⟨w.heap.size + 1 + 1, 0, none⟩) 3 3] 24)).heap.size = w.heap.size + 1 := by simp
  have e2 : ((w.alloc (.cells #[.int .i64 4, .slice (some ⟨w.heap.size + 1, 0, none⟩) 3 3, .slice (some ⟨w.heap.size + 1 + 1, 0, none⟩) 3 3] 24)).alloc (.cells #[.int .i64 0, .int .i64 1, .int .i64 0, .int .i64 2, .int .i64 1, .int .i64 3] 83)).heap.size = w.heap.size + 1 + 1 := by simp
  rw [e1] at p1
  rw [e2] at p2
  refine bodyPost_ret (results_cell rfl _ _ ⟨w.heap.size, 0, none⟩ rfl _ (load24 (hc 0 _ rfl) (hc 1 _ rfl) (hc 2 _ rfl))) rfl ?_
  exact ⟨w.heap.size + 1, w.heap.size + 1 + 1, rfl, ⟨p1, p2, by decide, by decide⟩, hk⟩

theorem pairs_flat {X : World} {g : Nat} {l : List (Int × Int)} (h : Pairs X (some ⟨g, 0, none⟩) l) : ∀ j u, (l.flatMap pairC)[j]? = some u → X.cell? ⟨g, j, none⟩ = some u := by
  intro j u hu
  have hj := (List.getElem?_eq_some_iff.1 hu).1
  rw [flatMap_len (size := 2) (fun _ => rfl)] at hj
  have hi : j / 2 < l.length := by omega
  have e : j = j / 2 * 2 + j % 2 := by omega
  rw [e, flatMap_get (size := 2) (fun _ => rfl) l (j / 2) (j % 2) hi (by omega)] at hu
  obtain ⟨b, off, e2, h1, h2⟩ := h (j / 2) hi
  simp only [Option.some.injEq, Addr.mk.injEq] at e2
  obtain ⟨rfl, rfl, -⟩ := e2
  rw [Nat.zero_add] at h1 h2
  rcases Nat.mod_two_eq_zero_or_one j with hm | hm
  · rw [hm] at hu
    rw [e, hm, Nat.add_zero, h1]
    simpa [pairC] using hu
  · rw [hm] at hu
    rw [e, hm, h2]
    simpa [pairC] using hu
theorem OwnG.pairs {X : World} {base g c n : Nat} {l : List (Int × Int)} (h : OwnG X base 83 2 pairC (.slice (some ⟨g, 0, none⟩) n c) l) : Pairs X (some ⟨g, 0, none⟩) l := by
  intro i hi
  rcases h.slice (fun _ => rfl) with ⟨_, h⟩ | ⟨g', c', e, _, _, _, _, hc⟩
  · cases h
  · simp only [Value.slice.injEq, Option.some.injEq, Addr.mk.injEq] at e
    obtain ⟨⟨rfl, -⟩, -⟩ := e
    exact ⟨g, 0, rfl, by rw [Nat.zero_add]; simpa using hc i hi 0 _ rfl, by rw [Nat.zero_add]; exact hc i hi 1 _ rfl⟩
end Go.Proofs.Yteljjkghjbofnaa

/-! alive. -/
set_option maxRecDepth 100000
namespace Go.Proofs.Yteljjkghjbofnaa
open Go Go.Proofs Go.RowKit
attribute [local go_sem] Oper.semAt_some

theorem ProbBox.grownNe {X Y : World} {b : Nat} {o : Prob} {ao : Option Addr} {ca : Nat} {bo : Option Addr} {cb : Nat} {row : Option Nat} (h : ProbBox X b o ao ca bo cb) (hg : X.grownBy Y row) (hne : some b ≠ row) : ProbBox Y b o ao ca bo cb := ⟨hg.cell h.c0 hne, hg.cell h.c1 hne, hg.cell h.c2 hne⟩
theorem pair_one (r : Int × Int) : ∀ u ∈ pairC r, u.oneCell' = true := fun u hu => by
  simp [pairC] at hu
  rcases hu with rfl | rfl <;> rfl
theorem own_pairs4 {X : World} {base : Nat} {v : Value} (h : OwnG X base 83 2 pairC v (sampleP.arcs ++ [((3 : Int), (0 : Int))])) : ∃ g c, v = .slice (some ⟨g, 0, none⟩) 4 c := by
  rcases h.slice (fun _ => rfl) with ⟨h, _⟩ | ⟨g, c, e, _⟩
  · cases h
  · exact ⟨g, c, e⟩
theorem Pairs.set {X : World} {g k o : Nat} {l : List (Int × Int)} (h : Pairs X (some ⟨g, 0, none⟩) l) (hne : g ≠ k) (u : Value) : Pairs (X.setCell ⟨k, o, none⟩ u) (some ⟨g, 0, none⟩) l := by
  intro i hi
  obtain ⟨b, off, e, h1, h2⟩ := h i hi
  simp only [Option.some.injEq, Addr.mk.injEq] at e
  obtain ⟨rfl, rfl, -⟩ := e
  exact ⟨g, 0, rfl, cell_set_block h1 hne, cell_set_block h2 hne⟩
/-- All that was found. -/
structure AF (ga gb bx b6 gr : Nat) (al a1 a2 ad af an ac : Option Addr) (c1 c2 : Nat) (w X : World) : Prop where
  k : Kept w X
  o : IsProb X sampleP (some ⟨ga, 0, none⟩) (some ⟨gb, 0, none⟩)
  b : ProbBox X bx sampleP (some ⟨ga, 0, none⟩) 3 (some ⟨gb, 0, none⟩) 3
  l : Ints X al [0, 1, 2, 3]
  w1 : Ints X a1 [0, 2, 1, 3]
  w2 : Ints X a2 [0, 4, 1, 5]
  d : Ints X ad [0, 3, 6, 9]
  f : Ints X af [1, 2]
  n : Ints X an [0, 1, 3, 2]
  c : Ints X ac [0, 1, 3]
  s0 : X.cell? ⟨b6, 0, none⟩ = some (.slice a1 4 c1)
  s1 : X.cell? ⟨b6, 1, none⟩ = some (.slice a2 4 c2)
  r : X.cell? ⟨gr, 0, none⟩ = some (.int .i64 3) ∧ X.cell? ⟨gr, 1, none⟩ = some (.int .i64 2) ∧ X.cell? ⟨gr, 2, none⟩ = some (.int .u8 2) ∧ X.cell? ⟨gr, 9, none⟩ = some (.int .i64 0) ∧ X.cell? ⟨gr, 10, none⟩ = some (.int .i64 (-1)) ∧ X.cell? ⟨gr, 11, none⟩ = some (.int .u8 0)
theorem AF.kept {ga gb bx b6 gr : Nat} {al a1 a2 ad af an ac : Option Addr} {c1 c2 : Nat} {w X Y : World} (h : AF ga gb bx b6 gr al a1 a2 ad af an ac c1 c2 w X) (hk : Kept X Y) : AF ga gb bx b6 gr al a1 a2 ad af an ac c1 c2 w Y :=
  ⟨h.k.trans hk, h.o.kept hk, h.b.kept hk, h.l.kept hk, h.w1.kept hk, h.w2.kept hk, h.d.kept hk, h.f.kept hk, h.n.kept hk, h.c.kept hk, hk.cell h.s0, hk.cell h.s1, hk.cell h.r.1, hk.cell h.r.2.1, hk.cell h.r.2.2.1, hk.cell h.r.2.2.2.1, hk.cell h.r.2.2.2.2.1, hk.cell h.r.2.2.2.2.2⟩
theorem same_any (la : List Int) (ao bo : Option Addr) (ca cb n : Nat) (w : World) (ha : Ints w ao la) (hb : Ints w bo la) (hn : la.length = n) (hl : n < 1000) : Calls Try.prog 30 #[.slice ao n ca, .slice bo n cb] w (Gives (.bool true) w) := by
  have h := SameInts_any la la ao bo ca cb w ha hb (by omega) (by omega)
  rw [decide_eq_true rfl, hn] at h
  exact h
theorem pair_new (X : World) (a b : Int) : ∀ j u, ([(a, b)].flatMap pairC)[j]? = some u → (X.alloc (.cells #[.int .i64 a, .int .i64 b] 83)).cell? ⟨X.heap.size, j, none⟩ = some u := fun j u h => by
  rw [cell_of_row _ _ _ _ _ _ (heap_alloc_new X (.cells #[.int .i64 a, .int .i64 b] 83))]
  simpa [pairC] using h

set_option maxHeartbeats 6000000 in
theorem alive_any (w : World) : Calls Try.prog 23 #[] w (Gives (.bool true) w) := by
  go_enter Try.func23, Try.ntmps23
  go_wp2_with fail
  refine (sample_any w).mono ?_
  rintro e w1 ⟨ga, gb, rfl, ho, hk1⟩
  generalize hao : (some ⟨ga, 0, none⟩ : Option Addr) = ao at *
  generalize hbo : (some ⟨gb, 0, none⟩ : Option Addr) = bo at *
  have HAO := Lib.hid hao
  have HBO := Lib.hid hbo
  clear hao hbo
  have HO1 := Lib.hid ho
  have HK1 := Lib.hid hk1
  clear ho hk1
  go_wp2_with fail
  obtain ⟨w2, e2, hk2, hb2, hs2⟩ := alloc_prob w1 sampleP.N sampleP.arcs sampleP.near ao 3 bo 3
  rw [e2]
  clear e2
  obtain ⟨bx, hbx⟩ : ∃ bx, w1.heap.size = bx := ⟨_, rfl⟩
  rw [hbx] at hb2 ⊢
  clear hs2 hbx
  have HO2 := Lib.hid (HO1.out.kept hk2)
  have HB2 := Lib.hid hb2
  have HK2 := Lib.hid (HK1.out.trans hk2)
  clear hk2 hb2 HO1 HK1
  have hF := First_any sampleP ao bo 3 3 w2 HO2.out (fun h => goes_webOf h)
  rw [s_first] at hF
  refine hF.mono ?_
  clear hF
  rintro e w3 ⟨vl, rfl, hn, hk⟩
  obtain ⟨al, cl, rfl, -, hl, -⟩ := hn
  have HO3 := Lib.hid (HO2.out.kept hk)
  have HB3 := Lib.hid (HB2.out.kept hk)
  have HK3 := Lib.hid (HK2.out.trans hk)
  obtain ⟨q0, q1, q2⟩ := HB3.out
  have qb := lt_of_cell q0
  have L1 := Lib.hid hl
  clear hk hl HO2 HB2 HK2
  go_wp2_with fail
  have hF := Count_any sampleP ao bo 3 3 w3 HO3.out
  rw [s_count] at hF
  refine hF.mono ?_
  clear hF q0 q1 q2 qb
  rintro e w4 ⟨rfl, hk⟩
  have HO4 := Lib.hid (HO3.out.kept hk)
  have HB4 := Lib.hid (HB3.out.kept hk)
  have HK4 := Lib.hid (HK3.out.trans hk)
  obtain ⟨q0, q1, q2⟩ := HB4.out
  have qb := lt_of_cell q0
  have L1 := Lib.hid (L1.out.kept hk)
  clear hk HO3 HB3 HK3
  go_wp2_with fail
  have hF := Wait_ok sampleP ao bo 3 3 2 w4 HO4.out s_errS (by decide) (by rw [s_n]; decide) (by rw [s_n]; decide)
  refine hF.mono ?_
  clear hF q0 q1 q2 qb
  rintro e w5 ⟨v1, v2, o1, d1, rfl, ⟨q, hq1, hq2, hq3⟩, ⟨a1, c1, rfl, i1⟩, ⟨a2, c2, rfl, i2⟩, hk⟩
  rw [s_wait q hq1 hq3] at hq2
  simp only [Prod.mk.injEq] at hq2
  obtain ⟨rfl, rfl⟩ := hq2
  have HO5 := Lib.hid (HO4.out.kept hk)
  have HB5 := Lib.hid (HB4.out.kept hk)
  have HK5 := Lib.hid (HK4.out.trans hk)
  obtain ⟨q0, q1, q2⟩ := HB5.out
  have qb := lt_of_cell q0
  have L1 := Lib.hid (L1.out.kept hk)
  have W1 := Lib.hid i1
  have W2 := Lib.hid i2
  clear hk HO4 HB4 HK4 i1 i2 hq1 hq3 q
  go_wp2_with fail
  obtain ⟨b6, hb6⟩ : ∃ b6, w5.heap.size = b6 := ⟨_, rfl⟩
  have hkx : Kept w5 ((w5.alloc (.cells #[.slice a1 4 c1, .slice a2 4 c2] 33)).alloc (.cells #[.int .i64 0, .int .i64 1, .int .i64 2, .int .i64 3] 3)) := ((Kept.refl _).alloc _).alloc _
  have hix := lit4 (w5.alloc (.cells #[.slice a1 4 c1, .slice a2 4 c2] 33)) 0 1 2 3
  rw [show (w5.alloc (.cells #[.slice a1 4 c1, .slice a2 4 c2] 33)).heap.size = w5.heap.size + 1 by simp] at hix
  have hs0 : ((w5.alloc (.cells #[.slice a1 4 c1, .slice a2 4 c2] 33)).alloc (.cells #[.int .i64 0, .int .i64 1, .int .i64 2, .int .i64 3] 3)).cell? ⟨w5.heap.size, 0, none⟩ = some (.slice a1 4 c1) := by simp [go_sem]
  have hs1 : ((w5.alloc (.cells #[.slice a1 4 c1, .slice a2 4 c2] 33)).alloc (.cells #[.int .i64 0, .int .i64 1, .int .i64 2, .int .i64 3] 3)).cell? ⟨w5.heap.size, 1, none⟩ = some (.slice a2 4 c2) := by simp [go_sem]
  generalize ((w5.alloc (.cells #[.slice a1 4 c1, .slice a2 4 c2] 33)).alloc (.cells #[.int .i64 0, .int .i64 1, .int .i64 2, .int .i64 3] 3)) = x5 at *
  rw [hb6] at hix hs0 hs1 ⊢
  clear hb6
  have hF := Days_any sampleP ao bo 3 3 2 [0, 1, 2, 3] (some ⟨b6 + 1, 0, none⟩) 4 x5 (HO5.out.kept hkx) hix (by decide) (by decide)
  rw [s_days] at hF
  refine hF.mono ?_
  clear hF q0 q1 q2 qb
  rintro e w6 ⟨vd, rfl, hn, hk6⟩
  obtain ⟨ad, cd, rfl, -, hd, -⟩ := hn
  have hk := hkx.trans hk6
  have HO6 := Lib.hid (HO5.out.kept hk)
  have HB6 := Lib.hid (HB5.out.kept hk)
  have HK6 := Lib.hid (HK5.out.trans hk)
  obtain ⟨q0, q1, q2⟩ := HB6.out
  have qb := lt_of_cell q0
  have L1 := Lib.hid (L1.out.kept hk)
  have W1 := Lib.hid (W1.out.kept hk)
  have W2 := Lib.hid (W2.out.kept hk)
  have S0 := Lib.hid (hk6.cell hs0)
  have S1 := Lib.hid (hk6.cell hs1)
  have D1 := Lib.hid hd
  clear hk hk6 hkx hix hs0 hs1 hd HO5 HB5 HK5
  go_wp2_with fail
  have hkx : Kept w6 (w6.alloc (.cells #[.int .i64 0, .int .i64 1, .int .i64 2, .int .i64 3] 3)) := (Kept.refl _).alloc _
  have hix := lit4 w6 0 1 2 3
  generalize (w6.alloc (.cells #[.int .i64 0, .int .i64 1, .int .i64 2, .int .i64 3] 3)) = x6 at *
  have hF := Reasons_any sampleP ao bo 3 3 2 [0, 1, 2, 3] (some ⟨w6.heap.size, 0, none⟩) 4 x6 (HO6.out.kept hkx) hix (by decide) (by decide)
  rw [s_rsn] at hF
  refine hF.mono ?_
  clear hF q0 q1 q2 qb
  rintro e w7 ⟨vr, rfl, hr, hk7⟩
  obtain ⟨gr, cr, rfl, -, -, -, -, hrc⟩ : ∃ g c, vr = .slice (some ⟨g, 0, none⟩) 4 c ∧ 4 ≤ c ∧ x6.heap.size ≤ g ∧ g < w7.heap.size ∧ (∀ o, w7.frozen? ⟨g, o, none⟩ = false) ∧ ∀ i (h : i < 4) (j : Nat) (u : Value), (rsnC ([((3 : Int), (2 : Int), (2 : Int)), (2, 1, 2), (1, 0, 2), (0, -1, 0)][i]))[j]? = some u → w7.cell? ⟨g, i * 3 + j, none⟩ = some u := by
    rcases hr.slice rsnC_len with ⟨h, _⟩ | h
    · cases h
    · exact h
  have hk := hkx.trans hk7
  have HO7 := Lib.hid (HO6.out.kept hk)
  have HB7 := Lib.hid (HB6.out.kept hk)
  have HK7 := Lib.hid (HK6.out.trans hk)
  obtain ⟨q0, q1, q2⟩ := HB7.out
  have qb := lt_of_cell q0
  have L1 := Lib.hid (L1.out.kept hk)
  have W1 := Lib.hid (W1.out.kept hk)
  have W2 := Lib.hid (W2.out.kept hk)
  have S0 := Lib.hid (hk.cell S0.out)
  have S1 := Lib.hid (hk.cell S1.out)
  have D1 := Lib.hid (D1.out.kept hk)
  have RA : Hid (w7.cell? ⟨gr, 0, none⟩ = some (.int .i64 3) ∧ w7.cell? ⟨gr, 1, none⟩ = some (.int .i64 2) ∧ w7.cell? ⟨gr, 2, none⟩ = some (.int .u8 2) ∧ w7.cell? ⟨gr, 9, none⟩ = some (.int .i64 0) ∧ w7.cell? ⟨gr, 10, none⟩ = some (.int .i64 (-1)) ∧ w7.cell? ⟨gr, 11, none⟩ = some (.int .u8 0)) :=
    ⟨hrc 0 (by decide) 0 _ rfl, hrc 0 (by decide) 1 _ rfl, hrc 0 (by decide) 2 _ rfl, hrc 3 (by decide) 0 _ rfl, hrc 3 (by decide) 1 _ rfl, hrc 3 (by decide) 2 _ rfl⟩
  clear hk hk7 hkx hix hr hrc HO6 HB6 HK6
  go_wp2_with fail
  have hF := Free_any sampleP ao bo 3 3 w7 HO7.out
  rw [s_free] at hF
  refine hF.mono ?_
  clear hF q0 q1 q2 qb
  rintro e w8 ⟨vf, rfl, hn, hk⟩
  obtain ⟨af, cf, rfl, -, hf, -⟩ := hn
  have HO8 := Lib.hid (HO7.out.kept hk)
  have HB8 := Lib.hid (HB7.out.kept hk)
  have HK8 := Lib.hid (HK7.out.trans hk)
  obtain ⟨q0, q1, q2⟩ := HB8.out
  have qb := lt_of_cell q0
  have KA := Lib.hid hk
  have F1 := Lib.hid hf
  clear hk hf HO7 HB7 HK7
  go_wp2_with fail
  have hF := Nth_any sampleP ao bo 3 3 1 w8 HO8.out
  rw [s_nth] at hF
  refine hF.mono ?_
  clear hF q0 q1 q2 qb
  rintro e w9 ⟨vn, rfl, hn, hk⟩
  obtain ⟨an, cn, rfl, -, hnn, -⟩ := hn
  have HO9 := Lib.hid (HO8.out.kept hk)
  have HB9 := Lib.hid (HB8.out.kept hk)
  have HK9 := Lib.hid (HK8.out.trans hk)
  obtain ⟨q0, q1, q2⟩ := HB9.out
  have qb := lt_of_cell q0
  have KB := Lib.hid (KA.out.trans hk)
  have F1 := Lib.hid (F1.out.kept hk)
  have N1 := Lib.hid hnn
  clear hk hnn HO8 HB8 HK8 KA
  have hao := HAO.out
  have hbo := HBO.out
  subst hao
  subst hbo
  clear HAO HBO
  clear q0 q1 q2 qb
  have hb0' := HB9.out.c0
  have hb1' := HB9.out.c1
  have hb2' := HB9.out.c2
  have hbl' := lt_of_cell hb0'
  obtain ⟨x9, e9, hk9, hb9, hs9⟩ := alloc_prob w9 sampleP.N sampleP.arcs sampleP.near (some ⟨ga, 0, none⟩) 3 (some ⟨gb, 0, none⟩) 3
  have hf9 : ∀ o, x9.frozen? ⟨w9.heap.size, o, none⟩ = false := fun o => by rw [← e9]; exact frozen_of_row _ _ _ _ _ (heap_alloc_new w9 _)
  have E9 := Lib.hid e9
  have HK9' := Lib.hid hk9
  have HB9' := Lib.hid hb9
  have HS9 := Lib.hid hs9
  have HF9 := Lib.hid hf9
  have hown : Hid (OwnG (x9.alloc (.cells #[] 83)) (w9.heap.size + 1) 83 2 pairC (.slice (some ⟨w9.heap.size + 1, 0, none⟩) 0 0) []) := ⟨by simp, .inr ⟨w9.heap.size + 1, 0, #[], rfl, Nat.le_refl _, by rw [hs9]; exact heap_alloc_new x9 _, Nat.le_refl _, Nat.zero_le _, rfl, rfl⟩⟩
  have hpf : Hid (∀ j u, (sampleP.arcs.flatMap pairC)[j]? = some u → (x9.alloc (.cells #[] 83)).cell? ⟨ga, j, none⟩ = some u) := pairs_flat ((HO9.out.arcs.kept hk9).kept ((Kept.refl _).alloc _))
  have hbase9 : Hid (w9.heap.size + 1 ≤ (x9.alloc (.cells #[] 83)).heap.size) := by show _ ≤ _; simp; omega
  have HLT : Hid (w9.heap.size < (x9.alloc (.cells #[] 83)).heap.size) := by show _ < _; simp; omega
  have HNE : Hid (some w9.heap.size ≠ (Value.slice (some ⟨w9.heap.size + 1, 0, none⟩) 0 0).ownBlock) := fun e => by have e := Option.some.inj e; simp only at e; omega
  have HFX : Hid ((x9.alloc (.cells #[] 83)).frozen? ⟨w9.heap.size, 1, none⟩ = false) := (((Kept.refl x9).alloc (.cells #[] 83)).cells.2 w9.heap.size 1 (by omega)).trans (hf9 1)
  clear e9 hk9 hb9 hs9 hf9
  go_wp2_with (first
    | (at_builtin; rw [E9.out]; refine append_g (x9.alloc (.cells #[] 83)) rfl _ _ 22 rfl (w9.heap.size + 1) 83 2 16 (.agg #[.int .i64 0, .int .i64 0]) pairC (fun _ => rfl) pair_one Try.underlying22 info83 rfl (by decide) (by decide) (.slice (some ⟨w9.heap.size + 1, 0, none⟩) 0 0) [] rfl hown.out ga 3 sampleP.arcs rfl hpf.out (by decide) hbase9.out ?_; intro v10 w10 ho10 hg10 _; have HO10 := Lib.hid ho10; have HK10 := Lib.hid (((HK9'.out.alloc (.cells #[] 83))).grown hg10 (fun r e => by cases e; exact Nat.le_succ _)); have HB10 := Lib.hid ((HB9'.out.kept ((Kept.refl x9).alloc (.cells #[] 83))).grownNe hg10 HNE.out); have HF10 := Lib.hid (frozen_same (o := 1) hg10 HLT.out HNE.out HFX.out); have HZ10 := Lib.hid (Nat.le_trans hbase9.out hg10.size); clear ho10 hg10)
    | (at_builtin; refine append_g (w10.alloc (.cells #[.int .i64 3, .int .i64 0] 83)) rfl _ _ 22 rfl (w9.heap.size + 1) 83 2 16 (.agg #[.int .i64 0, .int .i64 0]) pairC (fun _ => rfl) pair_one Try.underlying22 info83 rfl (by decide) (by decide) v10 sampleP.arcs rfl (HO10.out.kept ((Kept.refl _).alloc _)) w10.heap.size 1 [((3 : Int), (0 : Int))] rfl (pair_new w10 3 0) (by decide) (by have := HZ10.out; simp; omega) ?_; intro v11 w11 ho11 hg11 _; obtain ⟨g11, c11, rfl⟩ := own_pairs4 ho11; have HO11 := Lib.hid ho11; have HK11 := Lib.hid ((HK10.out.alloc (.cells #[.int .i64 3, .int .i64 0] 83)).grown hg11 (fun r e => Nat.le_trans (Nat.le_succ _) (HO10.out.lt r e).1)); have hne11 : some w9.heap.size ≠ v10.ownBlock := (fun e => by have := (HO10.out.lt _ e.symm).1; omega); have hb11 := (HB10.out.kept ((Kept.refl w10).alloc (.cells #[.int .i64 3, .int .i64 0] 83))).grownNe hg11 hne11; have hf11 := frozen_same (o := 1) hg11 (lt_of_cell (HB10.out.kept ((Kept.refl w10).alloc (.cells #[.int .i64 3, .int .i64 0] 83))).c0) hne11 ((((Kept.refl w10).alloc (.cells #[.int .i64 3, .int .i64 0] 83)).cells.2 w9.heap.size 1 (lt_of_cell HB10.out.c0)).trans HF10.out); have HB11 := Lib.hid hb11; have p0 := hb11.c0; have p1 := hb11.c1; have p2 := hb11.c2; have pl := lt_of_cell p0; clear ho11 hg11 hne11 hb11))
  have hky : Hid (Kept w9 (w11.setCell ⟨w9.heap.size, 1, none⟩ (.slice (some ⟨g11, 0, none⟩) 4 c11))) := HK11.out.setCell (p := ⟨w9.heap.size, 1, none⟩) (Nat.le_refl _) _
  have hge := (HO11.out.lt g11 rfl).1
  have hoy : IsProb (w11.setCell ⟨w9.heap.size, 1, none⟩ (.slice (some ⟨g11, 0, none⟩) 4 c11)) roundP (some ⟨g11, 0, none⟩) (some ⟨gb, 0, none⟩) := ⟨HO11.out.pairs.set (by omega) _, HO9.out.near.kept hky.out, by decide, by decide⟩
  have hF := Circle_any roundP (some ⟨g11, 0, none⟩) (some ⟨gb, 0, none⟩) c11 3 _ hoy
  rw [s_circle] at hF
  refine hF.mono ?_
  rintro e w12 ⟨vc, rfl, ⟨⟨ac, cc, rfl, -, hc, -⟩, -⟩, hk⟩
  have hk9 := hky.out.trans hk
  have hk7 := KB.out.trans hk9
  have Aw12 : Hid (AF ga gb bx b6 gr al a1 a2 ad af an ac c1 c2 w w12) := ⟨HK9.out.trans hk9, HO9.out.kept hk9, HB9.out.kept hk9, L1.out.kept hk7, W1.out.kept hk7, W2.out.kept hk7, D1.out.kept hk7, F1.out.kept hk9, N1.out.kept hk9, hc, hk7.cell S0.out, hk7.cell S1.out, hk7.cell RA.out.1, hk7.cell RA.out.2.1, hk7.cell RA.out.2.2.1, hk7.cell RA.out.2.2.2.1, hk7.cell RA.out.2.2.2.2.1, hk7.cell RA.out.2.2.2.2.2⟩
  clear hk hk9 hk7 hc hky hge hoy hF p0 p1 p2 pl hb0' hb1' hb2' hbl' HK9 HO9 HB9 L1 W1 W2 D1 F1 N1 S0 S1 RA
  go_wp2_with fail
  refine (same_any [0, 1, 2, 3] al (some ⟨w12.heap.size, 0, none⟩) cl 4 4 (w12.alloc (.cells #[.int .i64 0, .int .i64 1, .int .i64 2, .int .i64 3] 3)) (Aw12.out.l.kept ((Kept.refl _).alloc _)) (lit4 w12 0 1 2 3) rfl (by decide)).mono ?_
  rintro e w13 ⟨rfl, hk⟩
  have Aw13 := Lib.hid (Aw12.out.kept (((Kept.refl w12).alloc _).trans hk))
  clear hk Aw12
  go_wp2_with fail
  refine (same_any [0, 1, 3, 2] an (some ⟨w13.heap.size, 0, none⟩) cn 4 4 (w13.alloc (.cells #[.int .i64 0, .int .i64 1, .int .i64 3, .int .i64 2] 3)) (Aw13.out.n.kept ((Kept.refl _).alloc _)) (lit4 w13 0 1 3 2) rfl (by decide)).mono ?_
  rintro e w14 ⟨rfl, hk⟩
  have Aw14 := Lib.hid (Aw13.out.kept (((Kept.refl w13).alloc _).trans hk))
  clear hk Aw13
  go_wp2_with fail
  refine (same_any [1, 2] af (some ⟨w14.heap.size, 0, none⟩) cf 2 2 (w14.alloc (.cells #[.int .i64 1, .int .i64 2] 3)) (Aw14.out.f.kept ((Kept.refl _).alloc _)) (lit2 w14 1 2) rfl (by decide)).mono ?_
  rintro e w15 ⟨rfl, hk⟩
  have Aw15 := Lib.hid (Aw14.out.kept (((Kept.refl w14).alloc _).trans hk))
  clear hk Aw14
  go_wp2_with fail
  refine (same_any [0, 1, 3] ac (some ⟨w15.heap.size, 0, none⟩) cc 3 3 (w15.alloc (.cells #[.int .i64 0, .int .i64 1, .int .i64 3] 3)) (Aw15.out.c.kept ((Kept.refl _).alloc _)) (lit3 w15 0 1 3) rfl (by decide)).mono ?_
  rintro e w16 ⟨rfl, hk⟩
  have Aw16 := Lib.hid (Aw15.out.kept (((Kept.refl w15).alloc _).trans hk))
  clear hk Aw15
  go_wp2_with fail
  refine (same_any [0, 3, 6, 9] ad (some ⟨w16.heap.size, 0, none⟩) cd 4 4 (w16.alloc (.cells #[.int .i64 0, .int .i64 3, .int .i64 6, .int .i64 9] 3)) (Aw16.out.d.kept ((Kept.refl _).alloc _)) (lit4 w16 0 3 6 9) rfl (by decide)).mono ?_
  rintro e w17 ⟨rfl, hk⟩
  have Aw17 := Lib.hid (Aw16.out.kept (((Kept.refl w16).alloc _).trans hk))
  clear hk Aw16
  have q0 := Aw17.out.s0
  have ql := lt_of_cell q0
  go_wp2_with fail
  clear q0 ql
  refine (same_any [0, 2, 1, 3] a1 (some ⟨w17.heap.size, 0, none⟩) c1 4 4 (w17.alloc (.cells #[.int .i64 0, .int .i64 2, .int .i64 1, .int .i64 3] 3)) (Aw17.out.w1.kept ((Kept.refl _).alloc _)) (lit4 w17 0 2 1 3) rfl (by decide)).mono ?_
  rintro e w18 ⟨rfl, hk⟩
  have Aw18 := Lib.hid (Aw17.out.kept (((Kept.refl w17).alloc _).trans hk))
  clear hk Aw17
  have q0 := Aw18.out.s1
  have ql := lt_of_cell q0
  go_wp2_with fail
  clear q0 ql
  refine (same_any [0, 4, 1, 5] a2 (some ⟨w18.heap.size, 0, none⟩) c2 4 4 (w18.alloc (.cells #[.int .i64 0, .int .i64 4, .int .i64 1, .int .i64 5] 3)) (Aw18.out.w2.kept ((Kept.refl _).alloc _)) (lit4 w18 0 4 1 5) rfl (by decide)).mono ?_
  rintro e w19 ⟨rfl, hk⟩
  have Aw19 := Lib.hid (Aw18.out.kept (((Kept.refl w18).alloc _).trans hk))
  clear hk Aw18
  obtain ⟨r0, r1, r2, r3, r4, r5⟩ := Aw19.out.r
  obtain ⟨q0, q1, q2⟩ := Aw19.out.b
  have ql := lt_of_cell q0
  have rl := lt_of_cell r0
  go_wp2_with fail
  have hF := Standing_any sampleP (some ⟨ga, 0, none⟩) (some ⟨gb, 0, none⟩) 3 3 0 3 w19 Aw19.out.o
  rw [s_stand1] at hF
  refine hF.mono ?_
  clear hF q0 q1 q2 ql r0 r1 r2 r3 r4 r5 rl
  rintro e w20 ⟨rfl, hk⟩
  have Aw20 := Lib.hid (Aw19.out.kept hk)
  clear hk Aw19
  obtain ⟨q0, q1, q2⟩ := Aw20.out.b
  have ql := lt_of_cell q0
  go_wp2_with fail
  have hF := Standing_any sampleP (some ⟨ga, 0, none⟩) (some ⟨gb, 0, none⟩) 3 3 3 1 w20 Aw20.out.o
  rw [s_stand2] at hF
  refine hF.mono ?_
  clear hF q0 q1 q2 ql
  rintro e w21 ⟨rfl, hk⟩
  have Aw21 := Lib.hid (Aw20.out.kept hk)
  clear hk Aw20
  go_wp2
  go_ret
  exact ⟨rfl, Aw21.out.k⟩
end Go.Proofs.Yteljjkghjbofnaa

/-! slim, CheckOrder, CheckCircle. -/
set_option maxRecDepth 100000
namespace Go.Proofs.Yteljjkghjbofnaa
open Go Go.Proofs Go.RowKit
attribute [local go_sem] Oper.semAt_some

def slimB (o : Prob) : Bool := decide (o.arcs.length ≤ 600) && decide (o.near.length ≤ 300)
set_option maxHeartbeats 400000 in
theorem slim_any (o : Prob) (ao bo : Option Addr) (ca cb : Nat) (w : World) : Calls Try.prog 22 #[probV o ao ca bo cb] w (Gives (.bool (slimB o)) w) := by
  have hd1 : decide ((o.arcs.length : Int) ≤ 600) = decide (o.arcs.length ≤ 600) := by
    by_cases h : o.arcs.length ≤ 600
    · rw [decide_eq_true h]; exact decide_eq_true (by omega)
    · rw [decide_eq_false h]; exact decide_eq_false (by omega)
  have hd2 : decide ((o.near.length : Int) ≤ 300) = decide (o.near.length ≤ 300) := by
    by_cases h : o.near.length ≤ 300
    · rw [decide_eq_true h]; exact decide_eq_true (by omega)
    · rw [decide_eq_false h]; exact decide_eq_false (by omega)
  unfold slimB
  cases h1 : decide (o.arcs.length ≤ 600)
  · rw [h1] at hd1
    clear hd2 h1
    go_enter Try.func22, Try.ntmps22
    go_wp2
    go_ret
    exact ⟨rfl, (Kept.refl w).alloc _⟩
  · rw [h1] at hd1
    clear h1
    go_enter Try.func22, Try.ntmps22
    go_wp2
    go_ret
    exact ⟨rfl, (Kept.refl w).alloc _⟩

def CheckOrderR (o : Prob) (l : List Int) : Bool × Int := if chk o = 0 then (orderedB (webOf o) l, 0) else (false, chk o)
set_option maxHeartbeats 400000 in
theorem CheckOrder_any (o : Prob) (ao bo : Option Addr) (ca cb : Nat) (l : List Int) (lo : Option Addr) (c : Nat) (w : World) (ho : IsProb w o ao bo) (hl : Ints w lo l) (hll : l.length < 1152921504606846976) :
    Calls Try.prog 39 #[probV o ao ca bo cb, .slice lo l.length c] w (Gives (.tuple #[.bool (CheckOrderR o l).1, .int .i64 (CheckOrderR o l).2]) w) := by
  have HO := Lib.hid ho
  have HL := Lib.hid hl
  clear ho hl
  by_cases h : chk o = 0
  · have hr : CheckOrderR o l = (orderedB (webOf o) l, 0) := by unfold CheckOrderR; rw [if_pos h]
    rw [hr]
    have H := Lib.hid h
    clear hr h
    go_enter Try.func39, Try.ntmps39
    go_wp2_with fail
    obtain ⟨w0, e0, hk0, hb0, -⟩ := alloc_prob w o.N o.arcs o.near ao ca bo cb
    rw [e0]
    clear e0
    have HK0 := Lib.hid hk0
    clear hk0 hb0
    refine (open_ok o ao bo ca cb w0 (HO.out.kept HK0.out) H.out).mono ?_
    rintro e w1 ⟨b, rfl, hw1, hk1⟩
    have HW1 := Lib.hid hw1
    have HK1 := Lib.hid (HK0.out.trans hk1)
    clear hw1 hk1
    go_wp2_with fail
    refine (ordered_any b (webOf o) l lo c _ HW1.out (webOf_n H.out) (HL.out.kept HK1.out) hll).mono ?_
    rintro e w2 ⟨rfl, rfl⟩
    go_wp2
    go_ret2
    exact ⟨rfl, HK1.out⟩
  · have hr : CheckOrderR o l = (false, chk o) := by unfold CheckOrderR; rw [if_neg h]
    rw [hr]
    have H := Lib.hid h
    have hb : (chk o != 0) = true := by simp [h]
    clear hr h
    go_enter Try.func39, Try.ntmps39
    go_wp2_with fail
    obtain ⟨w0, e0, hk0, hb0, -⟩ := alloc_prob w o.N o.arcs o.near ao ca bo cb
    rw [e0]
    clear e0
    have HK0 := Lib.hid hk0
    clear hk0 hb0
    refine (open_bad o ao bo ca cb w0 (HO.out.kept HK0.out) H.out).mono ?_
    rintro e w1 ⟨rfl, hk1⟩
    have HK1 := Lib.hid (HK0.out.trans hk1)
    clear hk1
    go_wp2
    go_ret2
    exact ⟨rfl, HK1.out⟩

/-- The arcs of a list, each patch with the next one. -/
def arcsB (W : Web) (l : List Int) (k : Nat) : Bool := (List.range k).all fun i => hasS (W.to (l.getD i 0).toNat) (l.getD ((i + 1) % l.length) 0).toNat
def CheckCircleR (o : Prob) (l : List Int) : Bool := decide (chk o = 0) && decide (2 ≤ l.length) && eachB (webOf o).n l && arcsB (webOf o) l l.length

theorem arcsB_false {W : Web} {l : List Int} {k n : Nat} (hk : k ≤ n) (h : arcsB W l k = false) : arcsB W l n = false := by
  unfold arcsB at *
  rw [List.all_eq_false] at *
  obtain ⟨x, hx, h⟩ := h
  exact ⟨x, List.mem_range.2 (by have := List.mem_range.1 hx; omega), h⟩
theorem rem_fact1 {k n : Nat} (hk : k < n) (hn : n < 1152921504606846976) : IntKind.i64.wrap ((k : Int) + 1) = (((k + 1 : Nat)) : Int) := by
  rw [IntWalk.i64_in _ (by omega)]; rfl
theorem rem_fact2 {k n : Nat} (h0 : 0 < n) (hn : n < 1152921504606846976) : IntKind.i64.wrap ((((k + 1 : Nat)) : Int).tmod (n : Int)) = (((k + 1) % n : Nat) : Int) := by
  have h : (((k + 1 : Nat)) : Int).tmod (n : Int) = (((k + 1) % n : Nat) : Int) := rfl
  rw [h]
  have := Nat.mod_lt (k + 1) h0
  exact IntWalk.i64_in _ (by omega)

set_option maxHeartbeats 1600000 in
theorem CheckCircle_any (o : Prob) (ao bo : Option Addr) (ca cb : Nat) (l : List Int) (lo : Option Addr) (c : Nat) (w : World) (ho : IsProb w o ao bo) (hl : Ints w lo l) (hll : l.length < 1152921504606846976) :
    Calls Try.prog 36 #[probV o ao ca bo cb, .slice lo l.length c] w (Gives (.bool (CheckCircleR o l)) w) := by
  have HO := Lib.hid ho
  have HL := Lib.hid hl
  clear ho hl
  by_cases h : chk o = 0
  · have H := Lib.hid h
    have hr : CheckCircleR o l = (decide (2 ≤ l.length) && eachB (webOf o).n l && arcsB (webOf o) l l.length) := by unfold CheckCircleR; rw [decide_eq_true h]; rfl
    rw [hr]
    clear hr h
    go_enter Try.func36, Try.ntmps36
    go_wp2_with fail
    obtain ⟨w0, e0, hk0, hb0, -⟩ := alloc_prob w o.N o.arcs o.near ao ca bo cb
    rw [e0]
    clear e0
    have HK0 := Lib.hid hk0
    clear hk0 hb0
    refine (open_ok o ao bo ca cb w0 (HO.out.kept HK0.out) H.out).mono ?_
    rintro e w1 ⟨b, rfl, hw1, hk1⟩
    have HW1 := Lib.hid hw1
    have HK1 := Lib.hid (HK0.out.trans hk1)
    have hn := webOf_n H.out
    clear hw1 hk1
    by_cases h2 : 2 ≤ l.length
    · have hd : decide ((l.length : Int) < 2) = false := decide_eq_false (by omega)
      go_wp2_with fail
      refine (each_any b (webOf o) l lo c _ HW1.out hn (HL.out.kept HK1.out) hll).mono ?_
      rintro e w2 ⟨rfl, rfl⟩
      cases he : eachB (webOf o).n l
      · have HT : Hid (false = (decide (2 ≤ l.length) && eachB (webOf o).n l && arcsB (webOf o) l l.length)) := Lib.hid (by rw [he]; simp)
        simp -failIfUnchanged only []
        go_wp2
        go_ret
        exact ⟨ret_bool HT.out, HK1.out⟩
      · have hin : ∀ p ∈ l, 0 ≤ p ∧ p < ((webOf o).n : Int) := (of_decide_eq_true he).1
        have HT : Hid ((decide (2 ≤ l.length) && eachB (webOf o).n l && arcsB (webOf o) l l.length) = arcsB (webOf o) l l.length) := Lib.hid (by rw [decide_eq_true h2, he]; rfl)
        have HIN := Lib.hid hin
        clear he hin
        generalize hWW : webOf o = W at *
        have HWW := Lib.hid hWW
        clear hWW
        go_wp2
        go_loopw [29] (fun i wr => ∃ k : Nat, k ≤ l.length ∧ i = .int .i64 k ∧ arcsB W l k = true ∧ Kept w1 wr) (fun i _ => l.length - (intOf i).toNat)
        case atStart => exact ⟨0, Nat.zero_le _, rfl, rfl, Kept.refl w1⟩
        case round =>
          obtain ⟨k, hk, rfl, ha, hkw⟩ := hrel
          have HA := Lib.hid ha
          have HKW := Lib.hid hkw
          clear ha hkw
          by_cases hlt : k < l.length
          · obtain ⟨p, hp1, hpn, hp2⟩ := getD_nat HIN.out hlt
            have hm : (k + 1) % l.length < l.length := Nat.mod_lt _ (by omega)
            obtain ⟨q, hq1, hqn, hq2⟩ := getD_nat HIN.out hm
            obtain ⟨B, off, rfl, hc1⟩ := ((HL.out.kept HK1.out).kept HKW.out) k hlt
            obtain ⟨B', off', e', hc2⟩ := ((HL.out.kept HK1.out).kept HKW.out) ((k + 1) % l.length) hm
            simp only [Option.some.injEq, Addr.mk.injEq] at e'
            obtain ⟨rfl, rfl, -⟩ := e'
            rw [hp2] at hc1
            rw [hq2] at hc2
            have hto := (HW1.out.kept HKW.out).to p (by omega)
            have hpi : (p : Int) < 24 := by omega
            have hq32 : q < 32 := by omega
            have hki : (k : Int) < l.length := by omega
            have hmi : (((k + 1) % l.length : Nat) : Int) < l.length := by omega
            have hw1 : IntKind.i64.wrap ((k : Int) + 1) = (((k + 1 : Nat)) : Int) := rem_fact1 hlt hll
            have hrem : ((k : Int) + 1).tmod (l.length : Int) = (((k + 1) % l.length : Nat) : Int) := rfl
            have hne : l ≠ [] := fun h => by rw [h] at hlt; exact absurd hlt (Nat.not_lt_zero _)
            have HS : Hid (arcsB W l (k + 1) = hasS (W.to p) q) := by
              show _ = _
              unfold arcsB
              rw [List.range_succ, List.all_append]
              have := HA.out
              unfold arcsB at this
              rw [this, Bool.true_and, List.all_cons, List.all_nil, Bool.and_true, hp1, hq1, Int.toNat_natCast, Int.toNat_natCast]
            clear hp1 hp2 hq1 hq2
            generalize (k + 1) % l.length = m at *
            go_wp2
            refine region_tail 14 (by kernel_rfl) (by kernel_rfl) ?_
            simp only [List.take_succ_cons, List.take_zero, List.drop_succ_cons, List.drop_zero]
            iterate 14 still_step
            with_reducible refine wpStill_nil ?_
            go_wp2_with fail
            refine (has_any (W.to p) q _ hq32).mono ?_
            rintro e w2 ⟨rfl, rfl⟩
            cases hh : hasS (W.to p) q
            all_goals
              have HH := Lib.hid hh
              clear hh
              go_wp2
            · go_ret
              refine ⟨ret_bool ?_, (HK1.out.trans HKW.out).drew⟩
              have hq := HT.out
              rw [hq]
              exact (arcsB_false (by omega) (HS.out.trans HH.out)).symm
            · go_roundw
              case measure => simp [intOf]; omega
              case rel => exact ⟨k + 1, by omega, by go_num, HS.out.trans HH.out, HKW.out.drew⟩
          · have hk2 : k = l.length := by omega
            have HK := Lib.hid hk2
            clear hk2
            go_wp2
            go_ret
            exact ⟨ret_bool (by have hq := HT.out; have ha := HA.out; rw [HK.out] at ha; rw [hq, ha]), HK1.out.trans HKW.out⟩
    · have hd : decide ((l.length : Int) < 2) = true := decide_eq_true (by omega)
      have HT : Hid (false = (decide (2 ≤ l.length) && eachB (webOf o).n l && arcsB (webOf o) l l.length)) := Lib.hid (by rw [decide_eq_false h2]; rfl)
      go_wp2
      go_ret
      exact ⟨ret_bool HT.out, HK1.out⟩
  · have hr : CheckCircleR o l = false := by unfold CheckCircleR; rw [decide_eq_false h]; rfl
    rw [hr]
    have H := Lib.hid h
    have hb : (chk o != 0) = true := by simp [h]
    clear hr h
    go_enter Try.func36, Try.ntmps36
    go_wp2_with fail
    obtain ⟨w0, e0, hk0, hb0, -⟩ := alloc_prob w o.N o.arcs o.near ao ca bo cb
    rw [e0]
    clear e0
    have HK0 := Lib.hid hk0
    clear hk0 hb0
    refine (open_bad o ao bo ca cb w0 (HO.out.kept HK0.out) H.out).mono ?_
    rintro e w1 ⟨rfl, hk1⟩
    have HK1 := Lib.hid (HK0.out.trans hk1)
    clear hk1
    go_wp2
    go_ret
    exact ⟨rfl, HK1.out⟩
end Go.Proofs.Yteljjkghjbofnaa
