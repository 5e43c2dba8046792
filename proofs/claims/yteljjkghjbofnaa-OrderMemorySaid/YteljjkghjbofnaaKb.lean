/- slices.Grow, slices.Concat at pairs. -/
import Derived.Test.YteljjkghjbofnaaTe
import Derived.Lib.AppendZerosOnto
set_option maxRecDepth 100000
namespace Go.Proofs.Yteljjkghjbofnaa
open Go Go.Proofs Go.RowKit
attribute [local go_sem] Oper.semAt_some

set_option maxHeartbeats 1000000 in
theorem Grow_any (n : Nat) (w : World) (hn : n < 1000000) :
    Calls Try.prog 152 #[.slice none 0 0, .int .i64 n] w (fun e w' => ∃ v, e = .returned v ∧ OwnG w' w.heap.size 83 2 pairC v ([] : List (Int × Int)) ∧ Kept w w') := by
  by_cases h0 : n = 0
  · subst h0
    rw [show ((0 : Nat) : Int) = 0 from rfl]
    go_enter Try.func152, Try.ntmps152
    go_wp2
    go_ret
    exact ⟨_, rfl, OwnG.nil _ _ _ _ _, Kept.refl _⟩
  · have hd : decide ((n : Int) > 0) = true := decide_eq_true (by omega)
    have hd2 : decide (0 < n) = true := decide_eq_true (by omega)
    obtain ⟨i0, hi, hz0, hz1, hz2⟩ := info_parts info83
    have hb : Try.t83.bytes = 16 := rfl
    have hfits := growslice_fits (need := n) (old := 0) (bytes := 16) (by omega) (by omega)
    have hge : n ≤ (Question.appendCap n 0 83).cut (w.tape w.drawn (Question.appendCap n 0 83)) := grownCap_ge w n 0 83
    have hle : (Question.appendCap n 0 83).cut (w.tape w.drawn (Question.appendCap n 0 83)) ≤ maxLen := grownCap_le_maxLen w n 0 83 (by unfold maxLen; omega)
    have HB := Lib.hid hb
    have HF := Lib.hid hfits
    have HGE := Lib.hid hge
    have HLE := Lib.hid hle
    clear hge hle hi hz0 hz1 hz2 hfits hb
    go_enter Try.func152, Try.ntmps152
    go_wp2
    · exfalso; have := HB.out; simp only [this] at *; omega
    · exfalso; have := HB.out; simp only [this] at *; omega
    · exfalso; have h2 := ‹281474976710656 < Builtin.nextslicecap n 0 * Try.t83.bytes›; have h3 := HF.out; rw [HB.out] at h2; omega
    have hk : Kept w ((w.alloc (.cells (Builtin.zeroCells #[Value.int .i64 0, Value.int .i64 0] n ++ Builtin.zeroCells #[Value.int .i64 0, Value.int .i64 0] ((Question.appendCap n 0 83).cut (w.tape w.drawn (Question.appendCap n 0 83)) - n)) 83)).drew) := ((Kept.refl w).alloc _).drew
    go_ret
    refine ⟨_, rfl, ⟨by simp, .inr ⟨w.heap.size, _, _, rfl, Nat.le_refl _, heap_alloc_new w _, Nat.zero_le _, HLE.out, ?_, by simp⟩⟩, hk⟩
    have := HGE.out
    simp [Builtin.zeroCells]
    omega

theorem append_prs {ops : Array Oper} {rest : List Oper} {o : Oper} {a : Act} {Q : Exit → Act → World → Prop} (w : World) (hg : o.guard = none) (s x : Operand)
    (ho : o.op = .call { callee := .builtin .append, args := #[s, x], argTypes := #[22, 22] }) (base : Nat) (v : Value) (l : List (Int × Int)) (hs : a.eval s = v) (hown : OwnG w base 83 2 pairC v l)
    (y : List (Int × Int)) (yo : Option Addr) (c : Nat) (hx : a.eval x = .slice yo y.length c) (hy : Pairs w yo y) (hnil : yo = none → c = 0) (hl : l.length + y.length < 1099511627776) (hbase : base ≤ w.heap.size)
    (h : ∀ v' w', OwnG w' base 83 2 pairC v' (l ++ y) → w.grownBy w' v.ownBlock → wpList Try.prog ops Q rest (a.put o.dst v') w') :
    wpList Try.prog ops Q (o :: rest) a w := by
  obtain ⟨i0, hi, hz0, hz1, hz2⟩ := info_parts info83
  cases yo with
  | none =>
    obtain rfl := hnil rfl
    have hnn : y = [] := by
      cases y with
      | nil => rfl
      | cons z t => obtain ⟨b, off, e, _⟩ := hy 0 (by simp); cases e
    subst hnn
    refine wpList_plain hg fun K hK => ?_
    have hrun := run_append_owned_none (P := Try.prog) w base 22 o.type 83 i0 2 Try.underlying22 hi v _ _ hown
    unfold Oper.wp
    simp [execOp, ho, resolve, invoke, builtin, hs, hx, hrun, Result.andThen]
    refine hK _ _ ?_
    exact h v w (by rw [List.append_nil]; exact hown) ⟨rfl, rfl, rfl, Nat.le_refl _, fun _ _ _ => rfl⟩
  | some ad =>
    refine wpList_append_own w hg s x 22 ho base 83 i0 _ 2 16 Try.underlying22 hi hz0 hz1 hz2 rfl (by decide) v l.length _ hs hown ad y.length c (y.flatMap pairC) hx (flatMap_len pairC_len y)
      (pairs_newsA hy) (pairs_one y) (by unfold maxLen; omega) (by omega) hbase ?_
    intro v' w' h1 h2 _
    refine h v' w' ?_ h2
    unfold OwnG
    rw [List.length_append, List.flatMap_append]
    exact h1

set_option maxHeartbeats 1000000 in
theorem Concat_any (A B : List (Int × Int)) (ao bo : Option Addr) (ca cb g : Nat) (w : World) (hA : Pairs w ao A) (hB : Pairs w bo B) (hna : ao = none → ca = 0) (hnb : bo = none → cb = 0)
    (h0 : w.cell? ⟨g, 0, none⟩ = some (.slice ao A.length ca)) (h1 : w.cell? ⟨g, 1, none⟩ = some (.slice bo B.length cb)) (hla : A.length < 10000) (hlb : B.length < 10000) :
    Calls Try.prog 136 #[.slice (some ⟨g, 0, none⟩) 2 2] w (fun e w' => ∃ v, e = .returned v ∧ OwnG w' w.heap.size 83 2 pairC v (A ++ B) ∧ Kept w w') := by
  have HA := Lib.hid hA
  have HB := Lib.hid hB
  have HNA := Lib.hid hna
  have HNB := Lib.hid hnb
  have H0 := Lib.hid h0
  have H1 := Lib.hid h1
  clear hA hB hna hnb
  go_enter Try.func136, Try.ntmps136
  go_wp2
  go_loopw [3, 11] (fun sv i wr => wr = w ∧ ((i = .int .i64 0 ∧ sv = .int .i64 0) ∨ (i = .int .i64 1 ∧ sv = .int .i64 (A.length : Int)) ∨ (i = .int .i64 2 ∧ sv = .int .i64 ((A.length : Int) + (B.length : Int))))) (fun _ i _ => 2 - (intOf i).toNat)
  case atStart => exact ⟨rfl, .inl ⟨rfl, rfl⟩⟩
  case round =>
    obtain ⟨rfl, ⟨rfl, rfl⟩ | ⟨rfl, rfl⟩ | ⟨rfl, rfl⟩⟩ := hrel
    · go_wp2
      go_roundw
      case measure => simp [intOf]
      case rel => exact ⟨trivial, .inr (.inl ⟨rfl, by go_num⟩)⟩
    · have hw : wrap64 ((A.length : Int) + (B.length : Int)) = (A.length : Int) + (B.length : Int) := IntWalk.wrap64_in _ (by omega)
      have hd : decide ((A.length : Int) + (B.length : Int) < 0) = false := decide_eq_false (by omega)
      go_wp2
      go_roundw
      case measure => simp [intOf]
      case rel => exact ⟨trivial, .inr (.inr ⟨rfl, rfl⟩)⟩
    · go_wp2_with fail
      have hF := Grow_any (A.length + B.length) wr (by omega)
      rw [show ((A.length + B.length : Nat) : Int) = (A.length : Int) + (B.length : Int) from rfl] at hF
      refine hF.mono ?_
      clear hF
      rintro e w1 ⟨v, rfl, hown, hk⟩
      have HO := Lib.hid hown
      have HK := Lib.hid hk
      have c0 := hk.cell H0.out
      have c1 := hk.cell H1.out
      have HC0 := Lib.hid c0
      have HC1 := Lib.hid c1
      clear hown hk c0 c1
      go_wp2
      go_loopw [6, 27] (fun v i wi => Kept wr wi ∧ ((i = .int .i64 0 ∧ OwnG wi wr.heap.size 83 2 pairC v ([] : List (Int × Int))) ∨ (i = .int .i64 1 ∧ OwnG wi wr.heap.size 83 2 pairC v A) ∨ (i = .int .i64 2 ∧ OwnG wi wr.heap.size 83 2 pairC v (A ++ B)))) (fun _ i _ => 2 - (intOf i).toNat)
      case atStart => exact ⟨HK.out, .inl ⟨rfl, HO.out⟩⟩
      case round =>
        obtain ⟨hkr, ⟨rfl, hor⟩ | ⟨rfl, hor⟩ | ⟨rfl, hor⟩⟩ := hrel
        · have c0 := hkr.cell H0.out
          have hlt0 := lt_of_cell c0
          go_wp2_with (at_builtin; refine append_prs _ rfl _ _ rfl _ _ [] rfl hor A ao ca rfl (HA.out.kept hkr) HNA.out (by simp; omega) hkr.size ?_; intro v' w' hov hgb; have HOV := Lib.hid hov; have HGB := Lib.hid (hkr.grown hgb (fun r e => (hor.lt r e).1)); clear hov hgb)
          go_roundw
          case measure => simp [intOf]
          case rel => exact ⟨HGB.out, .inr (.inl ⟨by go_num, HOV.out⟩)⟩
        · have c1 := hkr.cell H1.out
          have hlt1 := lt_of_cell c1
          go_wp2_with (at_builtin; refine append_prs _ rfl _ _ rfl _ _ A rfl hor B bo cb rfl (HB.out.kept hkr) HNB.out (by omega) hkr.size ?_; intro v' w' hov hgb; have HOV := Lib.hid hov; have HGB := Lib.hid (hkr.grown hgb (fun r e => (hor.lt r e).1)); clear hov hgb)
          go_roundw
          case measure => simp [intOf]
          case rel => exact ⟨HGB.out, .inr (.inr ⟨by go_num, HOV.out⟩)⟩
        · go_wp2
          go_ret
          exact ⟨_, rfl, hor, hkr⟩
end Go.Proofs.Yteljjkghjbofnaa
