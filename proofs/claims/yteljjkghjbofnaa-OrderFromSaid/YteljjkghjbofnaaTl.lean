/- Wait where there is nothing to seek; the last day. -/
import Derived.Test.YteljjkghjbofnaaTk
set_option maxRecDepth 100000
namespace Go.Proofs.Yteljjkghjbofnaa
open Go Go.Proofs Go.RowKit
attribute [local go_sem] Oper.semAt_some

set_option maxHeartbeats 400000 in
theorem last_any (l : List Int) (lo : Option Addr) (c : Nat) (w : World) (hl : Ints w lo l) (hll : l.length < 1152921504606846976) :
    Calls Try.prog 33 #[.slice lo l.length c] w (Tells (.int .i64 (lastK l l.length)) w) := by
  have HL := Lib.hid hl
  clear hl
  go_enter Try.func33, Try.ntmps33
  go_wp2
  go_loop [3, 8] (fun m i => ∃ k : Nat, k ≤ l.length ∧ i = .int .i64 k ∧ m = .int .i64 (lastK l k)) (fun _ i => l.length - (intOf i).toNat)
  case atStart => exact ⟨0, Nat.zero_le _, rfl, rfl⟩
  case round =>
    obtain ⟨k, hk, rfl, rfl⟩ := hrel
    by_cases hlt : k < l.length
    · have HS := Lib.hid (lastK_succ l hlt)
      obtain ⟨B, off, rfl, hcx⟩ := HL.out k hlt
      generalize l[k] = x at *
      go_wp2
      go_round
      case measure => simp [intOf] <;> omega
      case rel => exact ⟨k + 1, by omega, by go_num, by rw [HS.out]⟩
    · obtain rfl : k = l.length := by omega
      go_wp2
      go_ret
      exact ⟨rfl, rfl⟩

theorem wait_zero {w3 : World} {t : Nat} {u v : Value} (c0 : w3.cell? ⟨t, 0, none⟩ = some u) (c1 : w3.cell? ⟨t, 1, none⟩ = some v) (o : Obj) :
    (((w3.setCell ⟨t, 0, none⟩ (.slice none 0 0)).setCell ⟨t, 1, none⟩ (.slice none 0 0)).alloc o).cell? ⟨t, 0, none⟩ = some (.slice none 0 0) ∧
    (((w3.setCell ⟨t, 0, none⟩ (.slice none 0 0)).setCell ⟨t, 1, none⟩ (.slice none 0 0)).alloc o).cell? ⟨t, 1, none⟩ = some (.slice none 0 0) := by
  have hs0 := cell_set_same (u := .slice none 0 0) c0
  have hs1 := cell_set_off (o := 0) (u := .slice none 0 0) c1 (by decide)
  have hs2 := cell_set_off (o := 1) (u := .slice none 0 0) hs0 (by decide)
  have hs3 := cell_set_same (u := .slice none 0 0) hs1
  have hk9 := (Kept.refl ((w3.setCell ⟨t, 0, none⟩ (.slice none 0 0)).setCell ⟨t, 1, none⟩ (.slice none 0 0))).alloc o
  exact ⟨hk9.cell hs2, hk9.cell hs3⟩

set_option maxHeartbeats 1000000 in
theorem Wait_limit (o : Prob) (ao bo : Option Addr) (ca cb : Nat) (dry : Int) (w : World) (ho : IsProb w o ao bo) (h1 : chk o = 0) (hdry : 0 ≤ dry ∧ dry ≤ 30) (hn8 : 8 < (webOf o).n) :
    Calls Try.prog 28 #[probV o ao ca bo cb, .int .i64 dry] w (Gives (.tuple #[.agg #[.slice none 0 0, .slice none 0 0], .int .i64 2]) w) := by
  have HO := Lib.hid ho
  have H1 := Lib.hid h1
  clear ho h1
  have hdb : (decide (0 ≤ dry) && decide (dry ≤ 30)) = true := by simp; omega
  have HDB := Lib.hid hdb
  clear hdb
  refine calls_of_wp_marks Try.func28 rfl ?_
  simp only [Try.ntmps28, List.size_toArray, List.length_cons, List.length_nil, Nat.reduceAdd, Nat.reduceSub, Array.replicate_succ, Array.replicate_zero, List.push_toArray, List.append_toArray, List.nil_append, List.cons_append]
  go_wp2_with fail
  obtain ⟨w0, e0, hk0, hb0, hs0⟩ := alloc_prob w o.N o.arcs o.near ao ca bo cb
  rw [e0, hs0]
  clear e0
  have hc3 : ((w0.alloc (.cells #[.int .i64 dry] 3)).alloc (.cells #[.slice none 0 0, .slice none 0 0] 33)).cell? ⟨w0.heap.size, 0, none⟩ = some (.int .i64 dry) := by simp [go_sem]
  have hc40 : ((w0.alloc (.cells #[.int .i64 dry] 3)).alloc (.cells #[.slice none 0 0, .slice none 0 0] 33)).cell? ⟨w0.heap.size + 1, 0, none⟩ = some (.slice none 0 0) := by simp [go_sem]
  have hc41 : ((w0.alloc (.cells #[.int .i64 dry] 3)).alloc (.cells #[.slice none 0 0, .slice none 0 0] 33)).cell? ⟨w0.heap.size + 1, 1, none⟩ = some (.slice none 0 0) := by simp [go_sem]
  have hf4 : ∀ o, ((w0.alloc (.cells #[.int .i64 dry] 3)).alloc (.cells #[.slice none 0 0, .slice none 0 0] 33)).frozen? ⟨w0.heap.size + 1, o, none⟩ = false := fun o => by simp [go_sem]
  have hz2 : ((w0.alloc (.cells #[.int .i64 dry] 3)).alloc (.cells #[.slice none 0 0, .slice none 0 0] 33)).heap.size = w0.heap.size + 2 := by simp
  have hk2 : Kept w ((w0.alloc (.cells #[.int .i64 dry] 3)).alloc (.cells #[.slice none 0 0, .slice none 0 0] 33)) := (hk0.alloc _).alloc _
  generalize ((w0.alloc (.cells #[.int .i64 dry] 3)).alloc (.cells #[.slice none 0 0, .slice none 0 0] 33)) = w2 at *
  obtain ⟨t3, ht3⟩ : ∃ t3, w0.heap.size = t3 := ⟨_, rfl⟩
  rw [ht3] at hc3 hc40 hc41 hf4 hz2 hs0 ⊢
  have HK2 := Lib.hid hk2
  have HC3 := Lib.hid hc3
  have HC40 := Lib.hid hc40
  have HC41 := Lib.hid hc41
  have HF4 := Lib.hid hf4
  have HZ2 := Lib.hid hz2
  have HS0 := Lib.hid hs0
  clear hk0 hb0 hs0 hc40 hc41 hf4 hz2 hk2 hc3 ht3 w0
  refine (open_ok o ao bo ca cb w2 (HO.out.kept HK2.out) H1.out).mono ?_
  rintro e w3 ⟨b, rfl, hw3, hk3⟩
  generalize hWW : webOf o = W at *
  have HWE := Lib.hid hWW
  clear hWW
  have HW3 := Lib.hid hw3
  have HK3 := Lib.hid hk3
  have q1 := hk3.cell HC3.out
  have q2 := hw3.n
  have l1 := lt_of_cell q1
  have l2 := lt_of_cell q2
  have hgt : decide ((W.n : Int) > 8) = true := decide_eq_true (by omega)
  clear hw3 hk3
  go_wp2_with fail
  refine (isDry_any dry _).mono ?_
  rintro e w4 ⟨rfl, rfl⟩
  rw [HDB.out]
  obtain ⟨c0, c1, cf, cz⟩ := And.intro (HK3.out.cell HC40.out) (And.intro (HK3.out.cell HC41.out) (And.intro HF4.out HZ2.out))
  have hf0 := (HK3.out.cells.2 _ 0 (lt_of_cell HC40.out)).trans (cf 0)
  have hf1 := (HK3.out.cells.2 _ 1 (lt_of_cell HC40.out)).trans (cf 1)
  have lz := lt_of_cell c0
  clear cf cz
  go_wp2
  have hA : Kept w (((w3.setCell ⟨t3 + 1, 0, none⟩ (.slice none 0 0)).setCell ⟨t3 + 1, 1, none⟩ (.slice none 0 0)).alloc (.cells #[.pointer (some ⟨b, 0, none⟩)] 88)) := by
    have h0 := HS0.out
    exact (((HK2.out.trans HK3.out).setCell (p := ⟨t3 + 1, 0, none⟩) (by show _ ≤ t3 + 1; omega) _).setCell (p := ⟨t3 + 1, 1, none⟩) (by show _ ≤ t3 + 1; omega) _).alloc _
  obtain ⟨z0, z1⟩ := wait_zero c0 c1 (.cells #[.pointer (some ⟨b, 0, none⟩)] 88)
  exact ⟨_, results_cell_tmp rfl _ _ ⟨t3 + 1, 0, none⟩ rfl _ (load33 z0 z1), rfl, hA⟩

set_option maxHeartbeats 1000000 in
theorem Wait_none (o : Prob) (ao bo : Option Addr) (ca cb : Nat) (dry : Int) (w : World) (ho : IsProb w o ao bo) (h1 : chk o = 0) (hdry : 0 ≤ dry ∧ dry ≤ 30) (hn8 : (webOf o).n = 0) :
    Calls Try.prog 28 #[probV o ao ca bo cb, .int .i64 dry] w (Gives (.tuple #[.agg #[.slice none 0 0, .slice none 0 0], .int .i64 0]) w) := by
  have HO := Lib.hid ho
  have H1 := Lib.hid h1
  clear ho h1
  have hdb : (decide (0 ≤ dry) && decide (dry ≤ 30)) = true := by simp; omega
  have HDB := Lib.hid hdb
  clear hdb
  refine calls_of_wp_marks Try.func28 rfl ?_
  simp only [Try.ntmps28, List.size_toArray, List.length_cons, List.length_nil, Nat.reduceAdd, Nat.reduceSub, Array.replicate_succ, Array.replicate_zero, List.push_toArray, List.append_toArray, List.nil_append, List.cons_append]
  go_wp2_with fail
  obtain ⟨w0, e0, hk0, hb0, hs0⟩ := alloc_prob w o.N o.arcs o.near ao ca bo cb
  rw [e0, hs0]
  clear e0
  have hc3 : ((w0.alloc (.cells #[.int .i64 dry] 3)).alloc (.cells #[.slice none 0 0, .slice none 0 0] 33)).cell? ⟨w0.heap.size, 0, none⟩ = some (.int .i64 dry) := by simp [go_sem]
  have hc40 : ((w0.alloc (.cells #[.int .i64 dry] 3)).alloc (.cells #[.slice none 0 0, .slice none 0 0] 33)).cell? ⟨w0.heap.size + 1, 0, none⟩ = some (.slice none 0 0) := by simp [go_sem]
  have hc41 : ((w0.alloc (.cells #[.int .i64 dry] 3)).alloc (.cells #[.slice none 0 0, .slice none 0 0] 33)).cell? ⟨w0.heap.size + 1, 1, none⟩ = some (.slice none 0 0) := by simp [go_sem]
  have hf4 : ∀ o, ((w0.alloc (.cells #[.int .i64 dry] 3)).alloc (.cells #[.slice none 0 0, .slice none 0 0] 33)).frozen? ⟨w0.heap.size + 1, o, none⟩ = false := fun o => by simp [go_sem]
  have hz2 : ((w0.alloc (.cells #[.int .i64 dry] 3)).alloc (.cells #[.slice none 0 0, .slice none 0 0] 33)).heap.size = w0.heap.size + 2 := by simp
  have hk2 : Kept w ((w0.alloc (.cells #[.int .i64 dry] 3)).alloc (.cells #[.slice none 0 0, .slice none 0 0] 33)) := (hk0.alloc _).alloc _
  generalize ((w0.alloc (.cells #[.int .i64 dry] 3)).alloc (.cells #[.slice none 0 0, .slice none 0 0] 33)) = w2 at *
  obtain ⟨t3, ht3⟩ : ∃ t3, w0.heap.size = t3 := ⟨_, rfl⟩
  rw [ht3] at hc3 hc40 hc41 hf4 hz2 hs0 ⊢
  have HK2 := Lib.hid hk2
  have HC3 := Lib.hid hc3
  have HC40 := Lib.hid hc40
  have HC41 := Lib.hid hc41
  have HF4 := Lib.hid hf4
  have HZ2 := Lib.hid hz2
  have HS0 := Lib.hid hs0
  clear hk0 hb0 hs0 hc40 hc41 hf4 hz2 hk2 hc3 ht3 w0
  refine (open_ok o ao bo ca cb w2 (HO.out.kept HK2.out) H1.out).mono ?_
  rintro e w3 ⟨b, rfl, hw3, hk3⟩
  generalize hWW : webOf o = W at *
  have HWE := Lib.hid hWW
  clear hWW
  have HW3 := Lib.hid hw3
  have HK3 := Lib.hid hk3
  have q1 := hk3.cell HC3.out
  have q2 := hw3.n
  have l1 := lt_of_cell q1
  have l2 := lt_of_cell q2
  have hgt : decide ((W.n : Int) > 8) = false := decide_eq_false (by omega)
  have hnz : ((W.n : Int) == 0) = true := by simp; omega
  have HCB : Hid (circB W = false) := Lib.hid (by unfold circB; rw [hn8]; rfl)
  clear hw3 hk3
  go_wp2_with fail
  refine (isDry_any dry _).mono ?_
  rintro e w4 ⟨rfl, rfl⟩
  rw [HDB.out]
  obtain ⟨c0, c1, cf, cz⟩ := And.intro (HK3.out.cell HC40.out) (And.intro (HK3.out.cell HC41.out) (And.intro HF4.out HZ2.out))
  have hf0 := (HK3.out.cells.2 _ 0 (lt_of_cell HC40.out)).trans (cf 0)
  have hf1 := (HK3.out.cells.2 _ 1 (lt_of_cell HC40.out)).trans (cf 1)
  have lz := lt_of_cell c0
  clear cf cz
  go_wp2_with fail
  refine (circular_any b W _ (HW3.out.kept ((Kept.refl w3).alloc _)) (by omega)).mono ?_
  rintro e w4 ⟨rfl, rfl⟩
  rw [HCB.out]
  go_wp2
  have hA : Kept w (((w3.setCell ⟨t3 + 1, 0, none⟩ (.slice none 0 0)).setCell ⟨t3 + 1, 1, none⟩ (.slice none 0 0)).alloc (.cells #[.pointer (some ⟨b, 0, none⟩)] 88)) := by
    have h0 := HS0.out
    exact (((HK2.out.trans HK3.out).setCell (p := ⟨t3 + 1, 0, none⟩) (by show _ ≤ t3 + 1; omega) _).setCell (p := ⟨t3 + 1, 1, none⟩) (by show _ ≤ t3 + 1; omega) _).alloc _
  obtain ⟨z0, z1⟩ := wait_zero c0 c1 (.cells #[.pointer (some ⟨b, 0, none⟩)] 88)
  exact ⟨_, results_cell_tmp rfl _ _ ⟨t3 + 1, 0, none⟩ rfl _ (load33 z0 z1), rfl, hA⟩
end Go.Proofs.Yteljjkghjbofnaa
