/- What the reference's Wait finds is what Wait finds; Last; Wait where something is wrong. -/
import Derived.Test.YteljjkghjbofnaaTl
set_option maxRecDepth 100000
namespace Go.Proofs.Yteljjkghjbofnaa
open Go Go.Proofs Go.RowKit
attribute [local go_sem] Oper.semAt_some

section
variable {W : Web} {dry : Int}
def bestStep (W : Web) (dry : Int) (b : Option (List Int)) (l : List Int) : Option (List Int) :=
  match b with
  | none => some l
  | some x => if endOf W dry l < endOf W dry x then some l else some x
/-- The first of the lists that ends first. -/
def bestOf (W : Web) (dry : Int) (ls : List (List Int)) : Option (List Int) := ls.foldl (bestStep W dry) none
def bestPair (W : Web) (dry : Int) (b : Option (List Int)) : List Int × List Int := match b with | none => ([], []) | some x => (x, daysOf W dry x)
theorem best_wait (q : List (List Int)) (hb : ∀ x ∈ q, endOf W dry x < 2000) : (waitAll W dry q).2 = bestPair W dry (bestOf W dry q) ∧ (waitAll W dry q).1 = match bestOf W dry q with | none => 2000 | some x => endOf W dry x := by
  have key : ∀ (t : List (List Int)), (∀ x ∈ t.reverse, endOf W dry x < 2000) → (waitAll W dry t.reverse).2 = bestPair W dry (bestOf W dry t.reverse) ∧ (waitAll W dry t.reverse).1 = match bestOf W dry t.reverse with | none => 2000 | some x => endOf W dry x := by
    intro t
    induction t with
    | nil => intro _; exact ⟨rfl, rfl⟩
    | cons y t ih =>
      intro h
      rw [List.reverse_cons] at h ⊢
      obtain ⟨h1, h2⟩ := ih (fun x hx => h x (List.mem_append_left _ hx))
      have hy := h y (by simp)
      rw [waitAll_snoc]
      have e : bestOf W dry (t.reverse ++ [y]) = bestStep W dry (bestOf W dry t.reverse) y := by unfold bestOf; rw [List.foldl_append]; rfl
      rw [e]
      unfold waitStep
      cases hb : bestOf W dry t.reverse with
      | none =>
        rw [hb] at h1 h2
        simp only [] at h2
        rw [if_pos (by omega)]
        exact ⟨rfl, rfl⟩
      | some x =>
        rw [hb] at h1 h2
        simp only [] at h2
        by_cases hlt : endOf W dry y < endOf W dry x
        · have e2 : bestStep W dry (some x) y = some y := if_pos hlt
          rw [if_pos (by omega), e2]; exact ⟨rfl, rfl⟩
        · have e2 : bestStep W dry (some x) y = some x := if_neg hlt
          rw [if_neg (by omega), e2]; exact ⟨h1, h2⟩
  have := key q.reverse (by rw [List.reverse_reverse]; exact hb)
  rwa [List.reverse_reverse] at this
theorem best_stays {x : List Int} : ∀ (r : List (List Int)), (∀ y ∈ r, endOf W dry x ≤ endOf W dry y) → r.foldl (bestStep W dry) (some x) = some x
  | [], _ => rfl
  | y :: r, h => by
    rw [List.foldl_cons]
    have : bestStep W dry (some x) y = some x := by
      unfold bestStep
      exact if_neg (by have := h y (List.mem_cons_self ..); omega)
    rw [this]
    exact best_stays r (fun z hz => h z (List.mem_cons_of_mem _ hz))
theorem wait_best (hn : W.n ≤ 24) (h0 : 0 < W.n) (hd : 0 ≤ dry ∧ dry ≤ 30) {q : List (List Int)} (hq : q <+: ordersL W) {o1 d1 : List Int} (he : (waitAll W dry q).2 = (o1, d1))
    (hend : q = ordersL W ∨ (waitAll W dry q).1 = (W.n : Int) - 1) : (o1, d1) = bestPair W dry (bestOf W dry (ordersL W)) := by
  have hb : ∀ x ∈ ordersL W, (W.n : Int) - 1 ≤ endOf W dry x ∧ endOf W dry x < 2000 := fun x hx => by
    have := (end_bound (W := W) (dry := dry) hd (ordersL_sound hn hx) hn h0).1
    omega
  obtain ⟨h1, h2⟩ := best_wait (W := W) (dry := dry) q (fun x hx => (hb x (hq.subset hx)).2)
  rw [← he, h1]
  rcases hend with rfl | h
  · rfl
  · obtain ⟨r, hr⟩ := hq
    rw [h] at h2
    cases hbq : bestOf W dry q with
    | none => rw [hbq] at h2; simp only [] at h2; omega
    | some x =>
      rw [hbq] at h2
      simp only [] at h2
      have e : bestOf W dry (ordersL W) = r.foldl (bestStep W dry) (bestOf W dry q) := by rw [← hr]; unfold bestOf; rw [List.foldl_append]
      rw [e, hbq, best_stays r (fun y hy => by have := (hb y (by rw [← hr]; exact List.mem_append_right _ hy)).1; omega)]
theorem last_end (hn : W.n ≤ 24) (h0 : 0 < W.n) (hd : 0 ≤ dry ∧ dry ≤ 30) {l : List Int} (h : orderedB W l = true) : lastK (daysOf W dry l) (daysOf W dry l).length = endOf W dry l := by
  obtain ⟨e1, e2⟩ := end_bound (W := W) (dry := dry) hd h hn h0
  have hlen : (daysOf W dry l).length = W.n := daysPart_length W dry l l.length
  have hA := lastK_le (d := daysOf W dry l) (B := endOf W dry l) (by omega) (fun p hp => e2 p (by rw [hlen] at hp; exact hp)) _ (Nat.le_refl _)
  obtain ⟨k1, k2, k3, k4⟩ := orderedB_iff.1 h
  have hp := k2 _ (List.getElem_mem (show l.length - 1 < l.length by omega))
  have hB := lastK_ge (d := daysOf W dry l) (p := (l.getD (l.length - 1) 0).toNat) (daysOf W dry l).length (Nat.le_refl _) (by rw [hlen, getD_mem (show l.length - 1 < l.length by omega)]; omega)
  unfold endOf at *
  omega
end

set_option maxHeartbeats 400000 in
theorem Rlast_any (l : List Int) (lo : Option Addr) (c : Nat) (w : World) (hl : Ints w lo l) (hll : l.length < 1152921504606846976) :
    Calls Try.prog 93 #[.slice lo l.length c] w (Tells (.int .i64 (lastK l l.length)) w) := by
  have HL := Lib.hid hl
  clear hl
  go_enter Try.func93, Try.ntmps93
  go_wp2
  go_loop [3, 4] (fun m i => ∃ k : Nat, k ≤ l.length ∧ i = .int .i64 k ∧ m = .int .i64 (lastK l k)) (fun _ i => l.length - (intOf i).toNat)
  case atStart => exact ⟨0, Nat.zero_le _, rfl, rfl⟩
  case round =>
    obtain ⟨k, hk, rfl, rfl⟩ := hrel
    by_cases hlt : k < l.length
    · have HS := Lib.hid (lastK_succ l hlt)
      obtain ⟨B, off, rfl, hcx⟩ := HL.out k hlt
      generalize l[k] = x at *
      go_wp2
      go_round
      case measure => simp [intOf] <;> omega
      case rel => exact ⟨k + 1, by omega, by go_num, by rw [HS.out]⟩
    · obtain rfl : k = l.length := by omega
      go_wp2
      go_ret
      exact ⟨rfl, rfl⟩

set_option maxHeartbeats 1000000 in
theorem Wait_circ (o : Prob) (ao bo : Option Addr) (ca cb : Nat) (dry : Int) (w : World) (ho : IsProb w o ao bo) (h1 : chk o = 0) (hdry : 0 ≤ dry ∧ dry ≤ 30) (hn8 : (webOf o).n ≤ 8) (hcb : circB (webOf o) = true) :
    Calls Try.prog 28 #[probV o ao ca bo cb, .int .i64 dry] w (Gives (.tuple #[.agg #[.slice none 0 0, .slice none 0 0], .int .i64 50]) w) := by
  have HO := Lib.hid ho
  have H1 := Lib.hid h1
  have HCBX := Lib.hid hcb
  clear ho h1 hcb
  have hdb : (decide (0 ≤ dry) && decide (dry ≤ 30)) = true := by simp; omega
  have HDB := Lib.hid hdb
  clear hdb
  refine calls_of_wp_marks Try.func28 rfl ?_
  simp only [Try.ntmps28, List.size_toArray, List.length_cons, List.length_nil, Nat.reduceAdd, Nat.reduceSub, Array.replicate_succ, Array.replicate_zero, List.push_toArray, List.append_toArray, List.nil_append, List.cons_append]
  go_wp2_with fail
  obtain ⟨w0, e0, hk0, hb0, hs0⟩ := alloc_prob w o.N o.arcs o.near ao ca bo cb
  rw [e0, hs0]
  clear e0
  have hc3 : ((w0.alloc (.cells #[.int .i64 dry] 3)).alloc (.cells #[.slice none 0 0, .slice none 0 0] 33)).cell? ⟨w0.heap.size, 0, none⟩ = some (.int .i64 dry) := by simp [go_sem]
  have hc40 : ((w0.alloc (.cells #[.int .i64 dry] 3)).alloc (.cells #[.slice none 0 0, .slice none 0 0] 33)).cell? ⟨w0.heap.size + 1, 0, none⟩ = some (.slice none 0 0) := by simp [go_sem]
  have hc41 : ((w0.alloc (.cells #[.int .i64 dry] 3)).alloc (.cells #[.slice none 0 0, .slice none 0 0] 33)).cell? ⟨w0.heap.size + 1, 1, none⟩ = some (.slice none 0 0) := by simp [go_sem]
  have hf4 : ∀ o, ((w0.alloc (.cells #[.int .i64 dry] 3)).alloc (.cells #[.slice none 0 0, .slice none 0 0] 33)).frozen? ⟨w0.heap.size + 1, o, none⟩ = false := fun o => by simp [go_sem]
  have hz2 : ((w0.alloc (.cells #[.int .i64 dry] 3)).alloc (.cells #[.slice none 0 0, .slice none 0 0] 33)).heap.size = w0.heap.size + 2 := by simp
  have hk2 : Kept w ((w0.alloc (.cells #[.int .i64 dry] 3)).alloc (.cells #[.slice none 0 0, .slice none 0 0] 33)) := (hk0.alloc _).alloc _
  generalize ((w0.alloc (.cells #[.int .i64 dry] 3)).alloc (.cells #[.slice none 0 0, .slice none 0 0] 33)) = w2 at *
  obtain ⟨t3, ht3⟩ : ∃ t3, w0.heap.size = t3 := ⟨_, rfl⟩
  rw [ht3] at hc3 hc40 hc41 hf4 hz2 hs0 ⊢
  have HK2 := Lib.hid hk2
  have HC3 := Lib.hid hc3
  have HC40 := Lib.hid hc40
  have HC41 := Lib.hid hc41
  have HF4 := Lib.hid hf4
  have HZ2 := Lib.hid hz2
  have HS0 := Lib.hid hs0
  clear hk0 hb0 hs0 hc40 hc41 hf4 hz2 hk2 hc3 ht3 w0
  refine (open_ok o ao bo ca cb w2 (HO.out.kept HK2.out) H1.out).mono ?_
  rintro e w3 ⟨b, rfl, hw3, hk3⟩
  generalize hWW : webOf o = W at *
  have HWE := Lib.hid hWW
  clear hWW
  have HW3 := Lib.hid hw3
  have HK3 := Lib.hid hk3
  have q1 := hk3.cell HC3.out
  have q2 := hw3.n
  have l1 := lt_of_cell q1
  have l2 := lt_of_cell q2
  have hgt : decide ((W.n : Int) > 8) = false := decide_eq_false (by omega)
  have HCB := HCBX
  clear hw3 hk3
  go_wp2_with fail
  refine (isDry_any dry _).mono ?_
  rintro e w4 ⟨rfl, rfl⟩
  rw [HDB.out]
  obtain ⟨c0, c1, cf, cz⟩ := And.intro (HK3.out.cell HC40.out) (And.intro (HK3.out.cell HC41.out) (And.intro HF4.out HZ2.out))
  have hf0 := (HK3.out.cells.2 _ 0 (lt_of_cell HC40.out)).trans (cf 0)
  have hf1 := (HK3.out.cells.2 _ 1 (lt_of_cell HC40.out)).trans (cf 1)
  have lz := lt_of_cell c0
  clear cf cz
  go_wp2_with fail
  refine (circular_any b W _ (HW3.out.kept ((Kept.refl w3).alloc _)) (by omega)).mono ?_
  rintro e w4 ⟨rfl, rfl⟩
  rw [HCB.out]
  go_wp2
  have hA : Kept w (((w3.setCell ⟨t3 + 1, 0, none⟩ (.slice none 0 0)).setCell ⟨t3 + 1, 1, none⟩ (.slice none 0 0)).alloc (.cells #[.pointer (some ⟨b, 0, none⟩)] 88)) := by
    have h0 := HS0.out
    exact (((HK2.out.trans HK3.out).setCell (p := ⟨t3 + 1, 0, none⟩) (by show _ ≤ t3 + 1; omega) _).setCell (p := ⟨t3 + 1, 1, none⟩) (by show _ ≤ t3 + 1; omega) _).alloc _
  obtain ⟨z0, z1⟩ := wait_zero c0 c1 (.cells #[.pointer (some ⟨b, 0, none⟩)] 88)
  exact ⟨_, results_cell_tmp rfl _ _ ⟨t3 + 1, 0, none⟩ rfl _ (load33 z0 z1), rfl, hA⟩

set_option maxHeartbeats 1000000 in
theorem Wait_dry (o : Prob) (ao bo : Option Addr) (ca cb : Nat) (dry : Int) (w : World) (ho : IsProb w o ao bo) (h1 : chk o = 0) (hdry : ¬ (0 ≤ dry ∧ dry ≤ 30)) :
    Calls Try.prog 28 #[probV o ao ca bo cb, .int .i64 dry] w (Gives (.tuple #[.agg #[.slice none 0 0, .slice none 0 0], .int .i64 1]) w) := by
  have HO := Lib.hid ho
  have H1 := Lib.hid h1
  clear ho h1
  have hdb : (decide (0 ≤ dry) && decide (dry ≤ 30)) = false := by rw [Bool.and_eq_false_iff]; simp; omega
  have HDB := Lib.hid hdb
  clear hdb
  refine calls_of_wp_marks Try.func28 rfl ?_
  simp only [Try.ntmps28, List.size_toArray, List.length_cons, List.length_nil, Nat.reduceAdd, Nat.reduceSub, Array.replicate_succ, Array.replicate_zero, List.push_toArray, List.append_toArray, List.nil_append, List.cons_append]
  go_wp2_with fail
  obtain ⟨w0, e0, hk0, hb0, hs0⟩ := alloc_prob w o.N o.arcs o.near ao ca bo cb
  rw [e0, hs0]
  clear e0
  have hc3 : ((w0.alloc (.cells #[.int .i64 dry] 3)).alloc (.cells #[.slice none 0 0, .slice none 0 0] 33)).cell? ⟨w0.heap.size, 0, none⟩ = some (.int .i64 dry) := by simp [go_sem]
  have hc40 : ((w0.alloc (.cells #[.int .i64 dry] 3)).alloc (.cells #[.slice none 0 0, .slice none 0 0] 33)).cell? ⟨w0.heap.size + 1, 0, none⟩ = some (.slice none 0 0) := by simp [go_sem]
  have hc41 : ((w0.alloc (.cells #[.int .i64 dry] 3)).alloc (.cells #[.slice none 0 0, .slice none 0 0] 33)).cell? ⟨w0.heap.size + 1, 1, none⟩ = some (.slice none 0 0) := by simp [go_sem]
  have hf4 : ∀ o, ((w0.alloc (.cells #[.int .i64 dry] 3)).alloc (.cells #[.slice none 0 0, .slice none 0 0] 33)).frozen? ⟨w0.heap.size + 1, o, none⟩ = false := fun o => by simp [go_sem]
  have hz2 : ((w0.alloc (.cells #[.int .i64 dry] 3)).alloc (.cells #[.slice none 0 0, .slice none 0 0] 33)).heap.size = w0.heap.size + 2 := by simp
  have hk2 : Kept w ((w0.alloc (.cells #[.int .i64 dry] 3)).alloc (.cells #[.slice none 0 0, .slice none 0 0] 33)) := (hk0.alloc _).alloc _
  generalize ((w0.alloc (.cells #[.int .i64 dry] 3)).alloc (.cells #[.slice none 0 0, .slice none 0 0] 33)) = w2 at *
  obtain ⟨t3, ht3⟩ : ∃ t3, w0.heap.size = t3 := ⟨_, rfl⟩
  rw [ht3] at hc3 hc40 hc41 hf4 hz2 hs0 ⊢
  have HK2 := Lib.hid hk2
  have HC3 := Lib.hid hc3
  have HC40 := Lib.hid hc40
  have HC41 := Lib.hid hc41
  have HF4 := Lib.hid hf4
  have HZ2 := Lib.hid hz2
  have HS0 := Lib.hid hs0
  clear hk0 hb0 hs0 hc40 hc41 hf4 hz2 hk2 hc3 ht3 w0
  refine (open_ok o ao bo ca cb w2 (HO.out.kept HK2.out) H1.out).mono ?_
  rintro e w3 ⟨b, rfl, hw3, hk3⟩
  generalize hWW : webOf o = W at *
  have HWE := Lib.hid hWW
  clear hWW
  have HW3 := Lib.hid hw3
  have HK3 := Lib.hid hk3
  have q1 := hk3.cell HC3.out
  have q2 := hw3.n
  have l1 := lt_of_cell q1
  have l2 := lt_of_cell q2
  clear hw3 hk3
  go_wp2_with fail
  refine (isDry_any dry _).mono ?_
  rintro e w4 ⟨rfl, rfl⟩
  rw [HDB.out]
  obtain ⟨c0, c1, cf, cz⟩ := And.intro (HK3.out.cell HC40.out) (And.intro (HK3.out.cell HC41.out) (And.intro HF4.out HZ2.out))
  have hf0 := (HK3.out.cells.2 _ 0 (lt_of_cell HC40.out)).trans (cf 0)
  have hf1 := (HK3.out.cells.2 _ 1 (lt_of_cell HC40.out)).trans (cf 1)
  have lz := lt_of_cell c0
  clear cf cz
  go_wp2
  have hA : Kept w (((w3.setCell ⟨t3 + 1, 0, none⟩ (.slice none 0 0)).setCell ⟨t3 + 1, 1, none⟩ (.slice none 0 0)).alloc (.cells #[.pointer (some ⟨b, 0, none⟩)] 88)) := by
    have h0 := HS0.out
    exact (((HK2.out.trans HK3.out).setCell (p := ⟨t3 + 1, 0, none⟩) (by show _ ≤ t3 + 1; omega) _).setCell (p := ⟨t3 + 1, 1, none⟩) (by show _ ≤ t3 + 1; omega) _).alloc _
  obtain ⟨z0, z1⟩ := wait_zero c0 c1 (.cells #[.pointer (some ⟨b, 0, none⟩)] 88)
  exact ⟨_, results_cell_tmp rfl _ _ ⟨t3 + 1, 0, none⟩ rfl _ (load33 z0 z1), rfl, hA⟩

set_option maxHeartbeats 1000000 in
theorem Wait_bad (o : Prob) (ao bo : Option Addr) (ca cb : Nat) (dry : Int) (w : World) (ho : IsProb w o ao bo) (h1 : chk o ≠ 0) :
    Calls Try.prog 28 #[probV o ao ca bo cb, .int .i64 dry] w (Gives (.tuple #[.agg #[.slice none 0 0, .slice none 0 0], .int .i64 (chk o)]) w) := by
  have HO := Lib.hid ho
  have H1 := Lib.hid h1
  clear ho h1
  have hcb : (chk o != 0) = true := by simp [H1.out]
  have HCB := Lib.hid hcb
  clear hcb
  refine calls_of_wp_marks Try.func28 rfl ?_
  simp only [Try.ntmps28, List.size_toArray, List.length_cons, List.length_nil, Nat.reduceAdd, Nat.reduceSub, Array.replicate_succ, Array.replicate_zero, List.push_toArray, List.append_toArray, List.nil_append, List.cons_append]
  go_wp2_with fail
  obtain ⟨w0, e0, hk0, hb0, hs0⟩ := alloc_prob w o.N o.arcs o.near ao ca bo cb
  rw [e0, hs0]
  clear e0
  have hc3 : ((w0.alloc (.cells #[.int .i64 dry] 3)).alloc (.cells #[.slice none 0 0, .slice none 0 0] 33)).cell? ⟨w0.heap.size, 0, none⟩ = some (.int .i64 dry) := by simp [go_sem]
  have hc40 : ((w0.alloc (.cells #[.int .i64 dry] 3)).alloc (.cells #[.slice none 0 0, .slice none 0 0] 33)).cell? ⟨w0.heap.size + 1, 0, none⟩ = some (.slice none 0 0) := by simp [go_sem]
  have hc41 : ((w0.alloc (.cells #[.int .i64 dry] 3)).alloc (.cells #[.slice none 0 0, .slice none 0 0] 33)).cell? ⟨w0.heap.size + 1, 1, none⟩ = some (.slice none 0 0) := by simp [go_sem]
  have hf4 : ∀ o, ((w0.alloc (.cells #[.int .i64 dry] 3)).alloc (.cells #[.slice none 0 0, .slice none 0 0] 33)).frozen? ⟨w0.heap.size + 1, o, none⟩ = false := fun o => by simp [go_sem]
  have hz2 : ((w0.alloc (.cells #[.int .i64 dry] 3)).alloc (.cells #[.slice none 0 0, .slice none 0 0] 33)).heap.size = w0.heap.size + 2 := by simp
  have hk2 : Kept w ((w0.alloc (.cells #[.int .i64 dry] 3)).alloc (.cells #[.slice none 0 0, .slice none 0 0] 33)) := (hk0.alloc _).alloc _
  generalize ((w0.alloc (.cells #[.int .i64 dry] 3)).alloc (.cells #[.slice none 0 0, .slice none 0 0] 33)) = w2 at *
  obtain ⟨t3, ht3⟩ : ∃ t3, w0.heap.size = t3 := ⟨_, rfl⟩
  rw [ht3] at hc3 hc40 hc41 hf4 hz2 hs0 ⊢
  have HK2 := Lib.hid hk2
  have HC3 := Lib.hid hc3
  have HC40 := Lib.hid hc40
  have HC41 := Lib.hid hc41
  have HF4 := Lib.hid hf4
  have HZ2 := Lib.hid hz2
  have HS0 := Lib.hid hs0
  clear hk0 hb0 hs0 hc40 hc41 hf4 hz2 hk2 hc3 ht3 w0
  refine (open_bad o ao bo ca cb w2 (HO.out.kept HK2.out) H1.out).mono ?_
  rintro e w3 ⟨rfl, hk3⟩
  have HK3 := Lib.hid hk3
  have q1 := hk3.cell HC3.out
  have l1 := lt_of_cell q1
  have hcb := HCB.out
  clear hk3
  obtain ⟨c0, c1, cf, cz⟩ := And.intro (HK3.out.cell HC40.out) (And.intro (HK3.out.cell HC41.out) (And.intro HF4.out HZ2.out))
  have hf0 := (HK3.out.cells.2 _ 0 (lt_of_cell HC40.out)).trans (cf 0)
  have hf1 := (HK3.out.cells.2 _ 1 (lt_of_cell HC40.out)).trans (cf 1)
  have lz := lt_of_cell c0
  clear cf cz
  go_wp2
  have hA : Kept w (((w3.setCell ⟨t3 + 1, 0, none⟩ (.slice none 0 0)).setCell ⟨t3 + 1, 1, none⟩ (.slice none 0 0)).alloc (.cells #[.pointer none] 88)) := by
    have h0 := HS0.out
    exact (((HK2.out.trans HK3.out).setCell (p := ⟨t3 + 1, 0, none⟩) (by show _ ≤ t3 + 1; omega) _).setCell (p := ⟨t3 + 1, 1, none⟩) (by show _ ≤ t3 + 1; omega) _).alloc _
  obtain ⟨z0, z1⟩ := wait_zero c0 c1 (.cells #[.pointer none] 88)
  exact ⟨_, results_cell_tmp rfl _ _ ⟨t3 + 1, 0, none⟩ rfl _ (load33 z0 z1), rfl, hA⟩
end Go.Proofs.Yteljjkghjbofnaa
