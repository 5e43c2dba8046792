/- slices.Clone at numbers; orders. -/
import Derived.Test.YteljjkghjbofnaaXc
set_option maxRecDepth 100000
namespace Go.Proofs.Yteljjkghjbofnaa
open Go Go.Proofs Go.RowKit
attribute [local go_sem] Oper.semAt_some

set_option maxHeartbeats 400000 in
theorem clone_any (l : List Int) (bk off c : Nat) (w : World) (hl : Ints w (some ⟨bk, off, none⟩) l) (hlen : l.length < 1099511627776) :
    Calls Try.prog 89 #[.slice (some ⟨bk, off, none⟩) l.length c] w (fun e w' => ∃ v, e = .returned v ∧ OwnI w' w.heap.size v l ∧ Kept w w') := by
  have HL := Lib.hid hl
  have hown : Hid ((w.alloc (.cells #[] 3)).ownsRow w.heap.size 3 1 (.slice (some ⟨w.heap.size, 0, none⟩) 0 0) 0 []) := ⟨by simp, .inr ⟨w.heap.size, 0, #[], rfl, Nat.le_refl _, heap_alloc_new w _, Nat.le_refl _, Nat.zero_le _, rfl, rfl⟩⟩
  have hnews : Hid (∀ (j : Nat) (u : Value), (l.map (Value.int .i64))[j]? = some u → (w.alloc (.cells #[] 3)).cell? ((⟨bk, off, none⟩ : Addr).add j) = some u) := by
    intro j u hu
    rw [Addr.add_mid]
    rw [List.getElem?_map] at hu
    cases hx : l[j]? with
    | none => rw [hx] at hu; cases hu
    | some x =>
      rw [hx] at hu
      cases hu
      obtain ⟨hj, rfl⟩ := List.getElem?_eq_some_iff.1 hx
      obtain ⟨b', o', e, hc⟩ := HL.out j hj
      simp only [Option.some.injEq, Addr.mk.injEq] at e
      obtain ⟨rfl, rfl, -⟩ := e
      exact ((Kept.refl w).alloc _).cell hc
  have HLEN := Lib.hid hlen
  obtain ⟨i0, hi, hz0, hz1, hz2⟩ := info_parts info3
  have HI := Lib.hid hi
  have HZ0 := Lib.hid hz0
  have HZ1 := Lib.hid hz1
  have HZ2 := Lib.hid hz2
  clear hl hlen hi hz0 hz1 hz2
  go_enter Try.func89, Try.ntmps89
  go_wp2_with (at_builtin; refine wpList_append_own _ rfl _ _ 31 rfl w.heap.size 3 i0 (.int .i64 0) 1 8 Try.underlying31 HI.out HZ0.out HZ1.out HZ2.out rfl (by decide) _ 0 _ rfl hown.out ⟨bk, off, none⟩ l.length c (l.map (Value.int .i64)) rfl (by simp) hnews.out (fun u hu => by obtain ⟨_, _, rfl⟩ := List.mem_map.1 hu; rfl) (by have := HLEN.out; unfold maxLen; omega) (by have := HLEN.out; omega) (by simp) ?_; intro v' w1 hown1 hg1 _; have HO1 := Lib.hid hown1; have HG1 := Lib.hid hg1; clear hown1 hg1)
  go_ret
  refine ⟨v', rfl, ?_, ?_⟩
  · have h := HO1.out
    unfold OwnI
    rw [Nat.zero_add, List.nil_append] at h
    exact h
  · exact ((Kept.refl w).alloc _).grown HG1.out (fun r e => by cases e; exact Nat.le_refl _)

set_option maxHeartbeats 800000 in
theorem orders_any (B b L : Nat) (W : Web) (hn : W.n ≤ 24) (hn0 : 0 < W.n) (J Jx : (Nat → Prop) → List (List Int) → World → Prop) (host : Host B b L W J Jx) (X : World) (hB : B ≤ X.heap.size) (hj : J (fun _ => False) [] X) :
    Calls Try.prog 87 #[.pointer (some ⟨b, 0, none⟩), .func (.yield L) #[] #[]] X (fun e Y => (∃ v, e = .returned v) ∧ ((∃ T, J T (ordersL W) Y) ∨ ∃ T q, q <+: ordersL W ∧ Jx T q Y)) := by
  have HJ := Lib.hid hj
  have HHOST := Lib.hid host
  clear hj host
  have hsf := fun (a : Addr) (c : Array Value) (w : World) => run_store Try.prog w a (.func (.func 142) #[] c) .plain rfl
  go_enter Try.func87, Try.ntmps87
  have hx4 : Kept X ((((X.alloc (.cells #[.pointer (some ⟨b, 0, none⟩)] 88)).alloc (.cells #[.func (.yield L) #[] #[]] 116)).alloc (.cells #[.slice none 0 0] 31)).alloc (.cells #[walkV (X.heap.size + 2) X.heap.size (X.heap.size + 1) (X.heap.size + 3)] 152)) := ((((Kept.refl X).alloc _).alloc _).alloc _).alloc _
  have hz : (((X.alloc (.cells #[.pointer (some ⟨b, 0, none⟩)] 88)).alloc (.cells #[.func (.yield L) #[] #[]] 116)).alloc (.cells #[.slice none 0 0] 31)).heap.size = X.heap.size + 3 := by simp
  have hit : It B (X.heap.size + 2) X.heap.size (X.heap.size + 1) (X.heap.size + 3) b L (fun _ => False) (.slice none 0 0) (.slice none 0 0) [] ((((X.alloc (.cells #[.pointer (some ⟨b, 0, none⟩)] 88)).alloc (.cells #[.func (.yield L) #[] #[]] 116)).alloc (.cells #[.slice none 0 0] 31)).alloc (.cells #[walkV (X.heap.size + 2) X.heap.size (X.heap.size + 1) (X.heap.size + 3)] 152)) :=
    ⟨by simp [go_sem], by simp [go_sem], by simp [go_sem], by simp [go_sem], by simp [go_sem], OwnI.nil _ _, fun r e => (by cases e), fun r h => h.elim, by omega⟩
  have hsz4 : ((((X.alloc (.cells #[.pointer (some ⟨b, 0, none⟩)] 88)).alloc (.cells #[.func (.yield L) #[] #[]] 116)).alloc (.cells #[.slice none 0 0] 31)).alloc (.cells #[walkV (X.heap.size + 2) X.heap.size (X.heap.size + 1) (X.heap.size + 3)] 152)).heap.size = X.heap.size + 4 := by simp
  have hj4 := HHOST.out.turn (T' := TR (X.heap.size + 2) (.slice none 0 0) (fun _ => False)) HJ.out (grownBy_kept (World.grownBy.refl X none) hx4) (fun r e => by cases e) (fun r h => by
    rcases h with h | h | h
    · exact .inr (by rw [hsz4]; omega)
    · cases h
    · exact h.elim)
  have hw := walk_any B (X.heap.size + 2) X.heap.size (X.heap.size + 1) (X.heap.size + 3) b L W hn hn0 J Jx HHOST.out (W.n + 1) [] (.slice none 0 0) (fun _ => False) [] _ (by simp) (by simp) (by simp) (by simp) hit hj4
  rw [show setS [] = 0#32 from rfl] at hw
  have HW := Lib.hid hw
  clear hx4 hit hsz4 hj4 hw
  unfold walkV at HW
  go_wp2_with fail
  refine HW.out.mono ?_
  rintro e Y (⟨rfl, v', -, -, hj5, -⟩ | ⟨rfl, T', q, -, -, hq, hjx, -, -⟩)
  · have HJ5 := Lib.hid hj5
    clear hj5
    go_wp2
    refine bodyPost_end (results_none rfl _ _ _) rfl ?_
    exact ⟨⟨_, rfl⟩, .inl ⟨_, HJ5.out⟩⟩
  · have HJX := Lib.hid hjx
    have HQ := Lib.hid hq
    clear hjx hq
    go_wp2
    refine bodyPost_end (results_none rfl _ _ _) rfl ?_
    exact ⟨⟨_, rfl⟩, .inr ⟨T', q, HQ.out, HJX.out⟩⟩
end Go.Proofs.Yteljjkghjbofnaa
