/- ref.from, ref.All: all orders, as the program lists them. -/
import Derived.Test.YteljjkghjbofnaaTp
import Derived.Test.YteljjkghjbofnaaYi
import Derived.Maps.AppendAt
set_option maxRecDepth 100000
namespace Go.Proofs.Yteljjkghjbofnaa
open Go Go.Proofs Go.RowKit
attribute [local go_sem] Oper.semAt_some

abbrev SL := Option Addr × Nat × Nat
def slC (s : SL) : List Value := [.slice s.1 s.2.1 s.2.2]
theorem slC_len (s : SL) : (slC s).length = 1 := rfl
theorem slC_one (s : SL) : ∀ u ∈ slC s, u.oneCell' = true := fun u h => by simp [slC] at h; subst h; rfl
theorem info31 : (Try.prog.info? 31).map (fun i => (i.zero, i.size, i.bytes)) = some (some (.slice none 0 0), 1, 24) := by kernel_rfl
theorem under70 : Try.prog.underlying 70 = some (.slice 31) := by kernel_rfl
def Lists (X : World) (ss : List SL) (ls : List (List Int)) : Prop := ss.length = ls.length ∧ ∀ i, (h : i < ls.length) → (h' : i < ss.length) → ss[i].2.1 = ls[i].length ∧ Ints X ss[i].1 ls[i]
theorem Lists.kept {X Y : World} {ss : List SL} {ls : List (List Int)} (h : Lists X ss ls) (hk : Kept X Y) : Lists Y ss ls := ⟨h.1, fun i h1 h2 => ⟨(h.2 i h1 h2).1, (h.2 i h1 h2).2.kept hk⟩⟩
theorem Lists.nil (X : World) : Lists X [] [] := ⟨rfl, fun i h => absurd h (by simp)⟩
theorem Lists.app {X : World} {s1 s2 : List SL} {l1 l2 : List (List Int)} (h1 : Lists X s1 l1) (h2 : Lists X s2 l2) : Lists X (s1 ++ s2) (l1 ++ l2) := by
  refine ⟨by simp [h1.1, h2.1], fun i hi hi' => ?_⟩
  by_cases h : i < l1.length
  · rw [List.getElem_append_left h, List.getElem_append_left (by rw [h1.1]; exact h)]
    exact h1.2 i h _
  · rw [List.getElem_append_right (by have := h1.1; omega), List.getElem_append_right (by have := h1.1; omega)]
    have e := h1.1
    simp only [e]
    exact h2.2 _ _ _
/-- Where the lists lie: not below b, in the world, not in block r. -/
def Apart (b n : Nat) (r : Option Nat) (ss : List SL) : Prop := ∀ s ∈ ss, ∀ ad, s.1 = some ad → b ≤ ad.block ∧ ad.block < n ∧ some ad.block ≠ r
theorem Lists.grown {X Y : World} {b : Nat} {r : Option Nat} {ss : List SL} {ls : List (List Int)} (h : Lists X ss ls) (hg : X.grownBy Y r) (ha : Apart b X.heap.size r ss) : Lists Y ss ls := by
  refine ⟨h.1, fun i h1 h2 => ⟨(h.2 i h1 h2).1, fun j hj => ?_⟩⟩
  obtain ⟨B, off, e, hc⟩ := (h.2 i h1 h2).2 j hj
  exact ⟨B, off, e, hg.cell (a := ⟨B, off + j, none⟩) hc (ha _ (List.getElem_mem h2) _ e).2.2⟩

theorem append_sl {ops : Array Oper} {rest : List Oper} {o : Oper} {a : Act} {Q : Exit → Act → World → Prop} (w : World) (hg : o.guard = none) (s x : Operand)
    (ho : o.op = .call { callee := .builtin .append, args := #[s, x], argTypes := #[70, 70] }) (base : Nat) (v : Value) (l : List SL) (hs : a.eval s = v) (hown : OwnG w base 31 1 slC v l)
    (b2 : Nat) (vx : Value) (y : List SL) (hx : a.eval x = vx) (hy : OwnG w b2 31 1 slC vx y) (hl : l.length + y.length < 1099511627776) (hbase : base ≤ w.heap.size)
    (h : ∀ v' w', OwnG w' base 31 1 slC v' (l ++ y) → w.grownBy w' v.ownBlock → (v'.ownBlock = v.ownBlock ∨ v'.ownBlock = some w.heap.size) → wpList Try.prog ops Q rest (a.put o.dst v') w') :
    wpList Try.prog ops Q (o :: rest) a w := by
  obtain ⟨i0, hi, hz0, hz1, hz2⟩ := info_parts info31
  rcases hy.slice slC_len with ⟨rfl, rfl⟩ | ⟨g, c, rfl, -, -, -, -, hc⟩
  · refine wpList_plain hg fun K hK => ?_
    have hrun := run_append_owned_none (P := Try.prog) w base 70 o.type 31 i0 1 under70 hi v _ _ hown
    unfold Oper.wp
    simp [execOp, ho, resolve, invoke, builtin, hs, hx, hrun, Result.andThen]
    refine hK _ _ ?_
    exact h v w (by rw [List.append_nil]; exact hown) ⟨rfl, rfl, rfl, Nat.le_refl _, fun _ _ _ => rfl⟩ (.inl rfl)
  · refine wpList_append_own_at w hg s x 70 ho base 31 i0 _ 1 24 under70 hi hz0 hz1 hz2 rfl (by decide) v l.length _ hs hown ⟨g, 0, none⟩ y.length c (y.flatMap slC) hx (flatMap_len slC_len y)
      (fun j u hu => ?_) (fun u hu => ?_) (by unfold maxLen; omega) (by omega) hbase ?_
    · have hlt : j < y.length := by have := (List.getElem?_eq_some_iff.1 hu).1; rw [flatMap_len slC_len] at this; omega
      have e := flatMap_get slC_len y j 0 hlt (by decide)
      rw [Nat.mul_one, Nat.add_zero] at e
      rw [e] at hu
      have := hc j hlt 0 u hu
      rw [Nat.mul_one, Nat.add_zero] at this
      rw [Addr.add_mid, Nat.zero_add]
      exact this
    · obtain ⟨z, -, hz⟩ := List.mem_flatMap.1 hu
      exact slC_one z u hz
    · intro v' w' h1 h2 _ h4
      refine h v' w' ?_ h2 h4
      unfold OwnG
      rw [List.length_append, List.flatMap_append]
      exact h1
theorem append_copy {ops : Array Oper} {rest : List Oper} {o : Oper} {a : Act} {Q : Exit → Act → World → Prop} (w : World) (hg : o.guard = none) (s x : Operand)
    (ho : o.op = .call { callee := .builtin .append, args := #[s, x], argTypes := #[31, 31] }) (base : Nat) (v : Value) (hs : a.eval s = v) (hown : OwnI w base v [])
    (l : List Int) (lo : Option Addr) (c : Nat) (hx : a.eval x = .slice lo l.length c) (hy : Ints w lo l) (hnil : lo = none → c = 0) (hl : l.length < 1099511627776) (hbase : base ≤ w.heap.size)
    (h : ∀ v' w', OwnI w' base v' l → w.grownBy w' v.ownBlock → wpList Try.prog ops Q rest (a.put o.dst v') w') :
    wpList Try.prog ops Q (o :: rest) a w := by
  obtain ⟨i0, hi, hz0, hz1, hz2⟩ := info_parts info3
  cases lo with
  | none =>
    obtain rfl := hnil rfl
    have hnn : l = [] := by
      cases l with
      | nil => rfl
      | cons y t => obtain ⟨b, off, e, _⟩ := hy 0 (by simp); cases e
    subst hnn
    refine wpList_plain hg fun K hK => ?_
    have hrun := run_append_owned_none (P := Try.prog) w base 31 o.type 3 i0 1 Try.underlying31 hi v _ _ hown
    unfold Oper.wp
    simp [execOp, ho, resolve, invoke, builtin, hs, hx, hrun, Result.andThen]
    refine hK _ _ ?_
    exact h v w hown ⟨rfl, rfl, rfl, Nat.le_refl _, fun _ _ _ => rfl⟩
  | some ad =>
    refine wpList_append_own w hg s x 31 ho base 3 i0 (.int .i64 0) 1 8 Try.underlying31 hi hz0 hz1 hz2 rfl (by decide) v 0 _ hs hown ad l.length c (l.map (.int .i64)) hx (by simp)
      (fun j u hu => ?_) (fun u hu => ?_) (by unfold maxLen; omega) (by omega) hbase ?_
    · have hlt : j < l.length := by have := (List.getElem?_eq_some_iff.1 hu).1; simpa using this
      obtain ⟨b, off, e, hc⟩ := hy j hlt
      cases e
      rw [List.getElem?_map, List.getElem?_eq_getElem hlt] at hu
      simp at hu
      subst hu
      rw [Addr.add_mid]
      exact hc
    · obtain ⟨z, -, hz⟩ := List.mem_map.1 hu
      subst hz
      rfl
    · intro v' w' h1 h2 _
      refine h v' w' ?_ h2
      unfold OwnI
      rw [Nat.zero_add] at h1
      exact h1
theorem OwnEI (X : World) {base : Nat} (hb : base ≤ X.heap.size) : OwnI (X.alloc (.cells #[] 3)) base (.slice (some ⟨X.heap.size, 0, none⟩) 0 0) ([] : List Int) :=
  ⟨by simp, .inr ⟨X.heap.size, 0, #[], rfl, hb, heap_alloc_new X _, Nat.le_refl _, Nat.zero_le _, rfl, rfl⟩⟩
theorem OwnSL (X : World) (s : SL) : OwnG (X.alloc (.cells #[.slice s.1 s.2.1 s.2.2] 31)) X.heap.size 31 1 slC (.slice (some ⟨X.heap.size, 0, none⟩) 1 1) [s] :=
  ⟨by simp [slC], .inr ⟨X.heap.size, 1, #[.slice s.1 s.2.1 s.2.2], rfl, Nat.le_refl _, heap_alloc_new X _, Nat.le_refl _, by unfold maxLen; omega, rfl, rfl⟩⟩
theorem orders_len {W : Web} (hn : W.n ≤ 8) : ∀ (f : Nat) (d : S) (l : List Int), (ordersF W f d l).length ≤ 8 ^ f
  | 0, _, _ => by simp [ordersF]
  | f + 1, d, l => by
    by_cases hl : l.length = W.n
    · unfold ordersF; rw [if_pos hl]; exact Nat.one_le_pow _ _ (by decide)
    · rw [ordersF_succ hl, List.length_flatMap]
      have h1 : ∀ (t : List Nat), ((t.map fun p => (ordersF W f (d ||| oneS p) (l ++ [(p : Int)])).length)).sum ≤ t.length * 8 ^ f := by
        intro t
        induction t with
        | nil => simp
        | cons p t ih =>
          have := orders_len hn f (d ||| oneS p) (l ++ [(p : Int)])
          simp only [List.map_cons, List.sum_cons, List.length_cons, Nat.add_mul, Nat.one_mul]
          omega
      have h2 := h1 (readyL W d)
      have h3 : (readyL W d).length ≤ 8 := by
        unfold readyL
        exact Nat.le_trans (List.length_filter_le _ _) (by simpa using hn)
      have h4 := Nat.mul_le_mul_right (8 ^ f) h3
      rw [Nat.pow_succ, Nat.mul_comm (8 ^ f) 8]
      omega
/-- What comes of the first k patches. -/
def partF (W : Web) (f : Nat) (l : List Int) (k : Nat) : List (List Int) := ((List.range k).filter (readyB W (setS l))).flatMap fun p => ordersF W f (setS l ||| oneS p) (l ++ [(p : Int)])
theorem partF_succ (W : Web) (f : Nat) (l : List Int) (k : Nat) : partF W f l (k + 1) = partF W f l k ++ if readyB W (setS l) k = true then ordersF W f (setS (l ++ [(k : Int)])) (l ++ [(k : Int)]) else [] := by
  unfold partF
  rw [List.range_succ, List.filter_append, List.flatMap_append]
  congr 1
  by_cases h : readyB W (setS l) k = true
  · rw [if_pos h, List.filter_cons, if_pos h, setS_snoc_nat]
    simp
  · rw [if_neg h, List.filter_cons, if_neg h]
    simp
theorem partF_len {W : Web} (hn : W.n ≤ 8) {f : Nat} (l : List Int) : ∀ k, (partF W f l k).length ≤ k * 8 ^ f
  | 0 => by simp [partF]
  | k + 1 => by
    rw [partF_succ, List.length_append, Nat.add_mul, Nat.one_mul]
    have h1 := partF_len hn (f := f) l k
    split
    · have := orders_len hn f (setS (l ++ [(k : Int)])) (l ++ [(k : Int)])
      omega
    · generalize 8 ^ f = z at *
      simp
      omega
/-- A list of new lists. -/
def FromPost (w : World) (lo : Option Addr) (ls : List (List Int)) (e : Ending) (w' : World) : Prop :=
  ∃ v ss, e = .returned v ∧ OwnG w' w.heap.size 31 1 slC v ss ∧ Lists w' ss ls ∧ (∀ s ∈ ss, ∀ ad, s.1 = some ad → (some ad = lo ∨ w.heap.size ≤ ad.block) ∧ ad.block < w'.heap.size) ∧ Kept w w'
theorem apart_new {b n0 n7 : Nat} {r : Option Nat} {ss ss7 : List SL} (h : Apart b n0 r ss) (h7 : ∀ s ∈ ss7, ∀ ad, s.1 = some ad → n0 ≤ ad.block ∧ ad.block < n7) (hr : ∀ j, r = some j → j < n0) (hb : b ≤ n0) (h07 : n0 ≤ n7) : Apart b n7 r (ss ++ ss7) := by
  intro s hs ad e
  rcases List.mem_append.1 hs with h1 | h1
  · have := h s h1 ad e
    exact ⟨this.1, by omega, this.2.2⟩
  · have := h7 s h1 ad e
    exact ⟨by omega, this.2, fun e2 => by have := hr _ e2.symm; omega⟩
theorem apart_step {b n7 n8 : Nat} {r r8 : Option Nat} {ss : List SL} (h : Apart b n7 r ss) (h8 : r8 = r ∨ r8 = some n7) (h78 : n7 ≤ n8) : Apart b n8 r8 ss := by
  intro s hs ad e
  have := h s hs ad e
  refine ⟨this.1, by omega, ?_⟩
  rcases h8 with rfl | rfl
  · exact this.2.2
  · intro e2
    simp only [Option.some.injEq] at e2
    omega

set_option maxHeartbeats 2000000 in
theorem RFrom_any (o : Prob) (hc : chk o = 0) (hn8 : (webOf o).n ≤ 8) (ao bo : Option Addr) (ca cb : Nat) : ∀ (f : Nat) (l : List Int) (lo : Option Addr) (c : Nat) (w : World), f ≤ 9 → IsProb w o ao bo → Ints w lo l → (∀ p ∈ l, 0 ≤ p ∧ p < o.N) → l.length ≤ (webOf o).n → (webOf o).n - l.length < f → (lo = none → c = 0) → (∀ ad, lo = some ad → ad.block < w.heap.size) →
    Calls Try.prog 143 #[probV o ao ca bo cb, .slice lo l.length c] w (FromPost w lo (ordersF (webOf o) f (setS l) l)) := by
  intro f
  induction f with
  | zero => intro l lo c w _ _ _ _ _ h; exact absurd h (Nat.not_lt_zero _)
  | succ f IH =>
    intro l lo c w hf ho hl hin hle hfu hnil hlo
    have HIH := Lib.hid IH
    have HO := Lib.hid ho
    have HL := Lib.hid hl
    have HIN := Lib.hid hin
    have HNIL := Lib.hid hnil
    have HLO := Lib.hid hlo
    have HC := Lib.hid hc
    have HF9 := Lib.hid hf
    have HFU := Lib.hid hfu
    have HN8 := Lib.hid hn8
    have HNI := Lib.hid (webOf_nI hc)
    have HRD : Hid (∀ k : Nat, k < (webOf o).n → readyR o l (k : Int) = readyB (webOf o) (setS l) k) := Lib.hid fun k hk => readyR_eq hc hin hk
    have HLE := Lib.hid hle
    clear IH ho hl hin hnil hlo hf hfu hn8
    generalize hW : webOf o = W at *
    clear hW
    by_cases hlen : l.length = W.n
    · have e1 : ((l.length : Int) == o.N) = true := by rw [← HNI.out, hlen]; simp
      have HE : Hid (ordersF W (f + 1) (setS l) l = [l]) := Lib.hid (by unfold ordersF; rw [if_pos hlen])
      clear hlen hle
      go_enter Try.func143, Try.ntmps143
      go_wp2
      obtain ⟨w0, e0, hk0, hb0, hs0⟩ := alloc_prob w o.N o.arcs o.near ao ca bo cb
      rw [e0, hs0]
      clear e0 hs0
      have HK0 := Lib.hid hk0
      have HB0 := Lib.hid hb0
      clear hk0 hb0
      go_ret
      rw [HE.out]
      have hka : Kept w0 (w0.alloc (.cells #[.slice lo l.length c] 31)) := (Kept.refl _).alloc _
      refine ⟨_, [(lo, l.length, c)], rfl, (OwnSL w0 (lo, l.length, c)).base' HK0.out.size, ⟨rfl, fun i h h' => ?_⟩, fun s hs ad e => ?_, HK0.out.trans hka⟩
      · obtain rfl : i = 0 := by simp at h; omega
        exact ⟨rfl, (HL.out.kept HK0.out).kept hka⟩
      · simp only [List.mem_singleton] at hs
        subst hs
        have h1 := HLO.out ad e
        have h2 := (HK0.out.trans hka).size
        exact ⟨.inl e.symm, Nat.lt_of_lt_of_le h1 h2⟩
    · have e1 : ((l.length : Int) == o.N) = false := by rw [← HNI.out]; simp; omega
      have HLT : Hid (l.length < W.n) := Lib.hid (by omega)
      have HE : Hid (partF W f l W.n = ordersF W (f + 1) (setS l) l) := Lib.hid (by rw [ordersF_succ hlen]; rfl)
      clear hlen hle
      go_enter Try.func143, Try.ntmps143
      go_wp2
      obtain ⟨w0, e0, hk0, hb0, -⟩ := alloc_prob w o.N o.arcs o.near ao ca bo cb
      rw [e0]
      clear e0
      have HK0 := Lib.hid hk0
      have HB0 := Lib.hid hb0
      clear hk0 hb0
      clear e1
      go_loopw [5, 6] (fun vs i wr => ∃ (k : Nat) (v : Value) (ss : List SL), k ≤ W.n ∧ i = .int .i64 k ∧ vs = v ∧ OwnG wr w0.heap.size 31 1 slC v ss ∧ Lists wr ss (partF W f l k) ∧ Apart w0.heap.size wr.heap.size v.ownBlock ss ∧ Kept w0 wr) (fun _ i _ => W.n - (intOf i).toNat)
      case atStart => exact ⟨0, _, [], Nat.zero_le _, rfl, rfl, OwnG.nil _ _ _ _ _, Lists.nil _, fun s hs => by simp at hs, Kept.refl _⟩
      case round =>
        obtain ⟨k, v, ss, hk, rfl, rfl, hown, hls, hap, hkw⟩ := hrel
        have HOUT := Lib.hid hown
        have HLS := Lib.hid hls
        have HAP := Lib.hid hap
        have HKW := Lib.hid hkw
        have HB := Lib.hid (HB0.out.kept hkw)
        clear hown hls hap hkw
        obtain ⟨q0, q1, q2⟩ := HB.out
        have qb := lt_of_cell q0
        by_cases hkn : k < W.n
        · have hki : decide ((k : Int) < o.N) = true := decide_eq_true (by have := HNI.out; omega)
          have HKN := Lib.hid hkn
          clear hk hkn
          go_wp2_with fail
          clear q0 q1 q2 qb hki
          have hF := Rready_any o ao bo ca cb l lo c (k : Int) wr (HO.out.kept (HK0.out.trans HKW.out)) (HL.out.kept (HK0.out.trans HKW.out)) (by have := HLE.out; have := HN8.out; omega)
          rw [HRD.out k HKN.out] at hF
          refine hF.mono ?_
          clear hF
          rintro e w3 ⟨rfl, hk3⟩
          have HK3 := Lib.hid hk3
          have HB3 := Lib.hid (HB.out.kept hk3)
          clear hk3
          have hkb : k < 8 := by have := HKN.out; have := HN8.out; omega
          cases hrb : readyB W (setS l) k
          · have HP : Hid (partF W f l (k + 1) = partF W f l k) := Lib.hid (by rw [partF_succ, hrb]; simp)
            clear hrb
            go_wp2
            go_roundw
            case measure => have := HKN.out; simp [intOf] <;> omega
            case rel => exact ⟨k + 1, _, ss, HKN.out, by go_num, rfl, HOUT.out.kept HK3.out, by rw [HP.out]; exact HLS.out.kept HK3.out, apart_step HAP.out (.inl rfl) HK3.out.size, HKW.out.trans HK3.out⟩
          · have HP : Hid (partF W f l (k + 1) = partF W f l k ++ ordersF W f (setS (l ++ [(k : Int)])) (l ++ [(k : Int)])) := Lib.hid (by rw [partF_succ, hrb, if_pos rfl])
            clear hrb
            have HK0W := Lib.hid (HK0.out.trans HKW.out)
            obtain ⟨q0, q1, q2⟩ := HB3.out
            have qb := lt_of_cell q0
            go_wp2_with (first
              | (at_builtin; refine append_copy (w3.alloc (.cells #[] 3)) rfl _ _ rfl w3.heap.size (.slice (some ⟨w3.heap.size, 0, none⟩) 0 0) rfl (OwnEI w3 (Nat.le_refl _)) l lo c rfl ((HL.out.kept HK0W.out).kept (HK3.out.alloc _)) HNIL.out (by have := HLE.out; have := HN8.out; omega) (by simp) ?_; intro v5 w5 hown5 hg5; have HO5 := Lib.hid hown5; have HK5 : Hid (Kept w3 w5) := Lib.hid (((Kept.refl w3).alloc _).grown hg5 (fun r e => by cases e; exact Nat.le_refl _)); have HB5 := Lib.hid (HB3.out.kept HK5.out); clear hown5 hg5 q0 q1 q2 qb; obtain ⟨q0, q1, q2⟩ := HB5.out; have qb := lt_of_cell q0)
              | (at_builtin; refine append_int (w5.alloc (.cells #[.int .i64 (k : Int)] 3)) rfl _ _ rfl w3.heap.size v5 l rfl (HO5.out.kept ((Kept.refl _).alloc _)) w5.heap.size 1 (k : Int) rfl (by simp [go_sem]) (by have := HLE.out; have := HN8.out; omega) (by have := HK5.out.size; simp; omega) ?_; intro g6 c6 w6 hown6 hg6; have HO6 := Lib.hid hown6; have HK6 := Lib.hid ((HK5.out.alloc _).grown hg6 (fun r e => (HO5.out.lt r e).1)); have HB6 := Lib.hid (HB3.out.kept HK6.out); clear hown6 hg6 q0 q1 q2 qb; obtain ⟨q0, q1, q2⟩ := HB6.out; have qb := lt_of_cell q0)
              | fail)
            clear q0 q1 q2 qb
            have hI6 : Ints w6 (some ⟨g6, 0, none⟩) (l ++ [(k : Int)]) := by
              obtain ⟨ao', c', e, -, hi'⟩ := HO6.out.slice
              simp only [Value.slice.injEq] at e
              rw [e.1]
              exact hi'
            have hg6 := HO6.out.lt g6 rfl
            have HG6 := Lib.hid hg6
            have HKW6 := Lib.hid (HK0W.out.trans (HK3.out.trans HK6.out))
            have hF := HIH.out (l ++ [(k : Int)]) (some ⟨g6, 0, none⟩) c6 w6 (by have := HF9.out; omega) (HO.out.kept HKW6.out) hI6 (fun p hp => by
              rcases List.mem_append.1 hp with h | h
              · exact HIN.out p h
              · simp at h; subst h; have := HKN.out; have := HNI.out; omega) (by have := HLT.out; simp; omega) (by have := HFU.out; have := HLT.out; simp; omega) (fun h => by cases h) (fun ad h => by cases h; exact hg6.2)
            rw [List.length_append, List.length_singleton] at hF
            refine hF.mono ?_
            clear hF hI6 hg6
            rintro e w7 ⟨v7, ss7, rfl, hown7, hls7, hap7, hk7⟩
            have HK37 := Lib.hid (HK3.out.trans (HK6.out.trans hk7))
            have hlen7 := hls7.1
            have HL7 : Hid (ss7.length ≤ 134217728) := Lib.hid (by
              rw [hlen7]
              refine Nat.le_trans (orders_len HN8.out f _ _) ?_
              have : f ≤ 9 := by have := HF9.out; omega
              exact Nat.le_trans (Nat.pow_le_pow_right (by decide) this) (by decide))
            have HLS0 : Hid (ss.length ≤ 8 * 134217728) := Lib.hid (by
              rw [HLS.out.1]
              refine Nat.le_trans (partF_len HN8.out l k) ?_
              have : f ≤ 9 := by have := HF9.out; omega
              exact Nat.mul_le_mul (by omega) (Nat.le_trans (Nat.pow_le_pow_right (by decide) this) (by decide)))
            have HA7 := Lib.hid (apart_new HAP.out (n7 := w7.heap.size) (ss7 := ss7) (fun s hs ad e => by
              have h1 := hap7 s hs ad e
              refine ⟨?_, h1.2⟩
              have h3 := HK3.out.size
              have h6 := HK6.out.size
              rcases h1.1 with h2 | h2
              · cases h2
                exact Nat.le_trans h3 HG6.out.1
              · omega) (fun j e => (HOUT.out.lt j e).2) HKW.out.size HK37.out.size)
            have HLA := Lib.hid ((HLS.out.kept HK37.out).app hls7)
            have HO7 := Lib.hid hown7
            clear hown7 hls7 hap7 hk7 hlen7
            go_wp2_with (at_builtin; refine append_sl w7 rfl _ _ rfl w0.heap.size _ ss rfl (HOUT.out.kept HK37.out) w6.heap.size v7 ss7 rfl HO7.out (by have := HL7.out; have := HLS0.out; omega) (by have := HKW.out.size; have := HK37.out.size; omega) ?_; intro v8 w8 hown8 hg8 hb8; have HO8 := Lib.hid hown8; have HG8 := Lib.hid hg8; have HB8 := Lib.hid hb8; clear hown8 hg8 hb8)
            go_roundw
            case measure => have := HKN.out; simp [intOf] <;> omega
            case rel => exact ⟨k + 1, _, ss ++ ss7, HKN.out, by go_num, rfl, HO8.out, by rw [HP.out]; exact HLA.out.grown HG8.out HA7.out, apart_step HA7.out HB8.out HG8.out.size, (HKW.out.trans HK37.out).grown HG8.out (fun r e => (HOUT.out.lt r e).1)⟩
        · obtain rfl : k = W.n := by omega
          have hki : decide ((W.n : Int) < o.N) = false := decide_eq_false (by have := HNI.out; omega)
          go_wp2
          go_ret
          refine ⟨_, ss, rfl, HOUT.out.base' HK0.out.size, by rw [← HE.out]; exact HLS.out, fun s hs ad e => ?_, HK0.out.trans HKW.out⟩
          have h1 := HAP.out s hs ad e
          exact ⟨.inr (Nat.le_trans HK0.out.size h1.1), h1.2.1⟩
end Go.Proofs.Yteljjkghjbofnaa
