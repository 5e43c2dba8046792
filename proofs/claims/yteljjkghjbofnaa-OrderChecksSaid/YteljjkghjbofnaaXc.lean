/- orders: the walk through all orders. -/
import Derived.Test.YteljjkghjbofnaaXb
set_option maxRecDepth 100000
namespace Go.Proofs.Yteljjkghjbofnaa
open Go Go.Proofs Go.RowKit
attribute [local go_sem] Oper.semAt_some

theorem own_succ' {X : World} {base : Nat} {v : Value} {l : List Int} {y : Int} (h : OwnI X base v (l ++ [y])) : ∃ g c, v = .slice (some ⟨g, 0, none⟩) (l.length + 1) c ∧ l.length + 1 ≤ c := by
  rcases h.2 with ⟨_, h0⟩ | ⟨g, cap, cur, e, _, _, hc, _⟩
  · simp at h0
  · simp only [List.length_append, List.length_cons, List.length_nil, Nat.zero_add] at e hc
    exact ⟨g, cap, e, hc⟩

theorem pop_facts {X : World} {base : Nat} {v : Value} {l : List Int} {y : Int} (h : OwnI X base v (l ++ [y])) (hl : l.length < 24) : ∃ g n c, v = .slice (some ⟨g, 0, none⟩) (n + 1) c ∧ (n : Int) ≤ c ∧ wrap64 (n : Int) = n ∧ Hid (l.length = n) := by
  obtain ⟨g, c, h1, h2⟩ := own_succ' h
  exact ⟨g, l.length, c, h1, by omega, IntWalk.wrap64_in _ (by omega), Lib.hid rfl⟩

theorem append_at {F : Fence} {n : Nat} {ops : Array Oper} {rest : List Oper} {o : Oper} {a : Act} {Q : Exit → Act → World → Prop} (w : World) (hg : o.guard = none) (s x : Operand)
    (ho : o.op = .call { callee := .builtin .append, args := #[s, x], argTypes := #[31, 31] }) (base : Nat) (v : Value) (l : List Int) (hs : a.eval s = v) (hown : OwnI w base v l)
    (g c : Nat) (y : Int) (hx : a.eval x = .slice (some ⟨g, 0, none⟩) 1 c) (hy : w.cell? ⟨g, 0, none⟩ = some (.int .i64 y)) (hl : l.length < 1099511627776) (hbase : base ≤ w.heap.size)
    (h : ∀ g' c' w', OwnI w' base (.slice (some ⟨g', 0, none⟩) (l.length + 1) c') (l ++ [y]) → w.grownBy w' v.ownBlock → (some g' = v.ownBlock ∨ g' = w.heap.size) → wpListIn F n Try.prog ops Q rest (a.put o.dst (.slice (some ⟨g', 0, none⟩) (l.length + 1) c')) w') :
    wpListIn F n Try.prog ops Q (o :: rest) a w := by
  obtain ⟨i0, hi, hz0, hz1, hz2⟩ := info_parts info3
  refine wpListIn_append_own_at w hg s x 31 ho base 3 i0 (.int .i64 0) 1 8 Try.underlying31 hi hz0 hz1 hz2 rfl (by decide) v l.length _ hs hown ⟨g, 0, none⟩ 1 c [.int .i64 y] hx rfl
    (fun j u hu => ?_) (by simp [Value.oneCell']) (by unfold maxLen; omega) (by omega) hbase ?_
  · cases j with
    | zero => simp at hu; subst hu; exact hy
    | succ j => simp at hu
  · intro v' w' h1 h2 _ h4
    obtain ⟨g', c', rfl, h3⟩ := own_succ h1
    exact h g' c' w' h3 h2 (by
      rcases h4 with h4 | h4
      · exact .inl h4
      · exact .inr (by simpa [Value.ownBlock] using h4))

/-- What stands between two rounds of the loop over what is ready. -/
def InI (B bl ow oy bw b L : Nat) (J : (Nat → Prop) → List (List Int) → World → Prop) (l : List Int) (v : Value) (R1 : Nat → Prop) (p5 : Nat) (X2 : World) (part : List (List Int)) (Y : World) : Prop :=
  ∃ v', (∀ r, v'.ownBlock = some r → v.ownBlock = some r ∨ X2.heap.size ≤ r) ∧ It B bl ow oy bw b L R1 v' v' l Y ∧ J (TR bl v' R1) part Y ∧ Y.cell? ⟨p5, 0, none⟩ = some (.int .u32 (sI (setS l))) ∧ Wk B (TR bl v R1) X2 Y
/-- A round has said 'no more'. -/
def InX (B bl : Nat) (Jx : (Nat → Prop) → List (List Int) → World → Prop) (v : Value) (R1 : Nat → Prop) (p6 : Nat) (X2 : World) (pre all : List (List Int)) (Y : World) : Prop :=
  ∃ (T' : Nat → Prop) (q : List (List Int)), (∀ r, R1 r → T' r) ∧ (∀ r, T' r → TR bl v R1 r ∨ X2.heap.size ≤ r) ∧ q <+: all ∧ Jx T' (pre ++ q) Y ∧ Y.cell? ⟨p6, 0, none⟩ = some (.bool false) ∧ (∀ r, R1 r → (∃ u, Y.cell? ⟨r, 0, none⟩ = some u) ∧ Y.frozen? ⟨r, 0, none⟩ = false) ∧ Wk B (TR bl v R1) X2 Y

theorem InI.own {B bl ow oy bw b L : Nat} {W : Web} {J Jx : (Nat → Prop) → List (List Int) → World → Prop} (host : Host B b L W J Jx) {l : List Int} {v : Value} {R1 : Nat → Prop} {p5 : Nat} {X2 : World} (hB : B ≤ X2.heap.size)
    (how : ow < X2.heap.size ∧ oy < X2.heap.size ∧ bw < X2.heap.size) {α : Type} (f : List α → List (List Int)) : OwnFrom X2.heap.size (fun xs Y => InI B bl ow oy bw b L J l v R1 p5 X2 (f xs) Y) := by
  rintro xs A Z row ⟨v', h1, h2, h3, h4, h7⟩ hg hr
  have hnc : ∀ r, row = some r → ∃ o : Obj, A.heap[r]? = some o ∧ o.isCells = false := fun r e => (hr r e).2
  refine ⟨v', h1, h2.grown hg (fun r e => ⟨fun ht => ?_, fun e2 => ?_, fun e2 => ?_, fun e2 => ?_⟩), host.turn h3 hg (fun r e => .inr ⟨Nat.le_trans hB (hr r e).1, (hr r e).2⟩) (fun r h => .inl h), cell_kept h4 hg hnc,
    h7.trans (T' := fun r => X2.heap.size ≤ r) (Wk.of_grownBy hg (fun r e => .inl (hr r e).1)) (fun r h => .inr h)⟩
  · obtain ⟨o, ho, hc⟩ := hnc r e
    rw [h2.tr_cells ht ho] at hc
    cases hc
  · have := (hr r e).1; omega
  · have := (hr r e).1; omega
  · have := (hr r e).1; omega
theorem InX.own {B bl b L : Nat} {W : Web} {J Jx : (Nat → Prop) → List (List Int) → World → Prop} (host : Host B b L W J Jx) {v : Value} {R1 : Nat → Prop} {p6 : Nat} {X2 : World} (hB : B ≤ X2.heap.size) {pre : List (List Int)} {α : Type} (P : Prop) (f : List α → List (List Int)) :
    OwnFrom X2.heap.size (fun (xs : List α) Y => P ∧ InX B bl Jx v R1 p6 X2 pre (f xs) Y) := by
  rintro xs A Z row ⟨hp, T', q, h1, h2, h3, h4, h5, h7, h6⟩ hg hr
  have hnc : ∀ r, row = some r → ∃ o : Obj, A.heap[r]? = some o ∧ o.isCells = false := fun r e => (hr r e).2
  exact ⟨hp, T', q, h1, h2, h3, host.turnx h4 hg (fun r e => .inr ⟨Nat.le_trans hB (hr r e).1, (hr r e).2⟩) (fun r h => .inl h), cell_kept h5 hg hnc, (fun r hr' => by obtain ⟨⟨u, hu⟩, hf⟩ := h7 r hr'; exact ⟨⟨u, cell_kept hu hg hnc⟩, (frozen_kept hu hg hnc).trans hf⟩),
    h6.trans (T' := fun r => X2.heap.size ≤ r) (Wk.of_grownBy hg (fun r e => .inl (hr r e).1)) (fun r h => .inr h)⟩

theorem It.pop {B bl ow oy bw b L : Nat} {R : Nat → Prop} {vb : Value} {l : List Int} {p : Int} {g n c : Nat} {X : World} (h : It B bl ow oy bw b L R vb (.slice (some ⟨g, 0, none⟩) n c) (l ++ [p]) X) : It B bl ow oy bw b L R vb (.slice (some ⟨g, 0, none⟩) l.length c) l X :=
  ⟨h.cw, h.cy, h.cb, h.cv, h.fv, h.own.pop, h.tv, h.rc, h.n⟩

/-- One patch more is put behind the list. -/
theorem step_app {B bl ow oy bw b L : Nat} {W : Web} {J Jx : (Nat → Prop) → List (List Int) → World → Prop} (host : Host B b L W J Jx) {R : Nat → Prop} {v : Value} {l : List Int} {x : Int} {part : List (List Int)} {Y w1 : World} {g' c' : Nat} {o : Obj}
    (hit : It B bl ow oy bw b L R v v l Y) (hj : J (TR bl v R) part Y) (hown : OwnI w1 B (.slice (some ⟨g', 0, none⟩) (l.length + 1) c') (l ++ [x])) (hg : (Y.alloc o).grownBy w1 v.ownBlock) (hat : some g' = v.ownBlock ∨ g' = (Y.alloc o).heap.size) :
    It B bl ow oy bw b L R (.slice (some ⟨g', 0, none⟩) (l.length + 1) c') (.slice (some ⟨g', 0, none⟩) (l.length + 1) c') (l ++ [x]) (w1.setCell ⟨bl, 0, none⟩ (.slice (some ⟨g', 0, none⟩) (l.length + 1) c')) ∧
    J (TR bl (.slice (some ⟨g', 0, none⟩) (l.length + 1) c') R) part (w1.setCell ⟨bl, 0, none⟩ (.slice (some ⟨g', 0, none⟩) (l.length + 1) c')) ∧
    Wk B (TR bl v R) Y (w1.setCell ⟨bl, 0, none⟩ (.slice (some ⟨g', 0, none⟩) (l.length + 1) c')) ∧ (some g' = v.ownBlock ∨ Y.heap.size ≤ g') := by
  have hk : Kept Y (Y.alloc o) := (Kept.refl Y).alloc o
  have h1 := (hit.kept hk).app (l' := l ++ [x]) hg hown (hat.imp (fun e => by simpa [Value.ownBlock] using e) (fun e => by simpa [Value.ownBlock] using e))
  have hlt := (hown.lt g' rfl).2
  refine ⟨h1.store, ?_, ?_, hat.imp id (fun e => by simp at e; omega)⟩
  · have j1 := host.turn (T' := TR bl v R) hj (World.grownBy_alloc Y o none) (fun r e => by cases e) (fun r h => .inl h)
    have j2 := host.turn (T' := TR bl (.slice (some ⟨g', 0, none⟩) (l.length + 1) c') R) j1 hg (fun r e => .inl (.inr (.inl e))) (fun r h => by
      rcases h with h | h | h
      · exact .inl (.inl h)
      · have h : g' = r := by simpa [Value.ownBlock] using h
        subst h
        rcases hat with e | e
        · exact .inl (.inr (.inl e.symm))
        · exact .inr ⟨by omega, hlt⟩
      · exact .inl (.inr (.inr h)))
    exact host.turn j2 (grownBy_setCell' w1 bl _) (fun r e => by cases e; exact .inl (.inl rfl)) (fun r h => .inl h)
  · exact ((Wk.of_kept hk).trans (T' := TR bl v R) (Wk.of_grownBy hg (fun r e => .inl (.inr (.inl e)))) (fun r h => .inl h)).trans (T' := TR bl v R) (Wk.of_grownBy (grownBy_setCell' w1 bl _) (fun r e => by cases e; exact .inl (.inl rfl))) (fun r h => .inl h)

theorem ordersF_succ {W : Web} {d : S} {f : Nat} {l : List Int} (hl : ¬ l.length = W.n) : ordersF W (f + 1) d l = (readyL W d).flatMap fun p => ordersF W f (d ||| oneS p) (l ++ [(p : Int)]) := by
  conv => lhs; unfold ordersF
  rw [if_neg hl]
theorem setS_snoc_nat (l : List Int) (p : Nat) : setS (l ++ [(p : Int)]) = setS l ||| oneS p := by rw [setS_snoc, Int.toNat_natCast]

set_option maxHeartbeats 3000000 in
theorem walk_any (B bl ow oy bw b L : Nat) (W : Web) (hn : W.n ≤ 24) (hn0 : 0 < W.n) (J Jx : (Nat → Prop) → List (List Int) → World → Prop) (host : Host B b L W J Jx) : ∀ (f : Nat) (l : List Int) (v : Value) (R : Nat → Prop) (pre : List (List Int)) (X : World),
    W.n - l.length < f → l.length ≤ W.n → (∀ p ∈ l, 0 ≤ p ∧ p < (W.n : Int)) → l.Nodup → It B bl ow oy bw b L R v v l X → J (TR bl v R) pre X →
    Calls Try.prog 142 #[.int .u32 (sI (setS l)), .pointer (some ⟨bl, 0, none⟩), .pointer (some ⟨ow, 0, none⟩), .pointer (some ⟨oy, 0, none⟩), .pointer (some ⟨bw, 0, none⟩)] X (Ends B bl ow oy bw b L J Jx R v pre (ordersF W f (setS l) l) l X) := by
  intro f
  induction f with
  | zero => intro l v R pre X h; omega
  | succ f ih =>
    intro l v R pre X hf hle hin hnd hit hj
    by_cases hl : l.length = W.n
    · have e : ordersF W (f + 1) (setS l) l = [l] := by unfold ordersF; rw [if_pos hl]
      rw [e]
      exact walk_leaf B bl ow oy bw b L W hn0 J Jx host l v R pre X hl hin hnd hit hj
    · have HALL := Lib.hid (ordersF_succ (W := W) (d := setS l) (f := f) hl)
      generalize ordersF W (f + 1) (setS l) l = all at *
      have IH := Lib.hid ih
      have HF := Lib.hid hf
      have HIT := Lib.hid hit
      have HJ := Lib.hid hj
      have HLE : Hid (l.length < W.n) := Nat.lt_of_le_of_ne hle hl
      have HIN := Lib.hid hin
      have HND := Lib.hid hnd
      have HHOST := Lib.hid host
      obtain ⟨ao, c, hv, hc, -⟩ := hit.own.slice
      have c1 := hit.cw
      have c4 := hit.cv
      rw [hv] at c4
      have c5 := (host.web hj).n
      have hneq : ((l.length : Int) == (W.n : Int)) = false := by simp; omega
      have hB : B ≤ X.heap.size := Nat.le_trans hit.n.1 (Nat.le_of_lt (lt_of_cell hit.cv))
      have hbl := lt_of_cell c4
      have hlow := lt_of_cell c1
      have hloy := lt_of_cell hit.cy
      have hlb := lt_of_cell c5
      have hlbw := lt_of_cell hit.cb
      have HV := Lib.hid hv
      clear ih hit hj hle hin hnd hl hf hv hc host
      refine calls_of_wp_marks Try.func142 rfl ?_
      simp only [Try.ntmps142, List.size_toArray, List.length_cons, List.length_nil, Nat.reduceAdd, Nat.reduceSub, Array.replicate_succ, Array.replicate_zero, List.push_toArray, List.append_toArray, List.nil_append, List.cons_append]
      have hx1 : Kept X (((X.alloc (.cells #[.int .u32 (sI (setS l))] 93)).alloc (.cells #[.bool false] 4)).drew) := (((Kept.refl X).alloc _).alloc _).drew
      have hz1 : (((X.alloc (.cells #[.int .u32 (sI (setS l))] 93)).alloc (.cells #[.bool false] 4)).drew).heap.size = X.heap.size + 2 := by simp
      have hc5 : (((X.alloc (.cells #[.int .u32 (sI (setS l))] 93)).alloc (.cells #[.bool false] 4)).drew).cell? ⟨X.heap.size, 0, none⟩ = some (.int .u32 (sI (setS l))) := by simp [go_sem]
      have hc6 : (((X.alloc (.cells #[.int .u32 (sI (setS l))] 93)).alloc (.cells #[.bool false] 4)).drew).cell? ⟨X.heap.size + 1, 0, none⟩ = some (.bool false) := by simp [go_sem]
      have hf6 : (((X.alloc (.cells #[.int .u32 (sI (setS l))] 93)).alloc (.cells #[.bool false] 4)).drew).frozen? ⟨X.heap.size + 1, 0, none⟩ = false := by simp [go_sem]
      have HX1 := Lib.hid hx1
      have HZ1 := Lib.hid hz1
      have HC5 := Lib.hid hc5
      have HC6 := Lib.hid hc6
      have HF6 := Lib.hid hf6
      clear hx1 hz1 hc5 hc6 hf6
      go_wp2
      refine region_tail 6 (by kernel_rfl) (by kernel_rfl) ?_
      simp only [List.take_succ_cons, List.take_zero, List.drop_succ_cons, List.drop_zero]
      repeat still_step
      refine wpStill_nil ?_
      go_wp2_with fail
      generalize hX1 : (((X.alloc (.cells #[.int .u32 (sI (setS l))] 93)).alloc (.cells #[.bool false] 4)).drew) = X1 at *
      clear hX1
      refine (ready_any b W (setS l) X1 ((HHOST.out.web HJ.out).kept HX1.out)).mono ?_
      rintro e X2 ⟨d1, d2, rfl, hd1, hd2, hstat, hk2⟩
      have hz := HZ1.out
      have hs2 := hk2.size
      have HST := Lib.hid hstat
      have HK2 := Lib.hid hk2
      have HSZ : Hid (X.heap.size + 2 ≤ X2.heap.size ∧ d1 ≥ X.heap.size + 2 ∧ d2 ≥ X.heap.size + 2 ∧ d1 < X2.heap.size ∧ d2 < X2.heap.size) := ⟨by omega, by omega, by omega, lt_of_cell hstat.c1, lt_of_cell hstat.c2⟩
      have HKX : Hid (Kept X X2) := HX1.out.trans hk2
      obtain ⟨R1, hR1⟩ : ∃ R1 : Nat → Prop, R1 = fun r => R r ∨ r = X.heap.size + 1 := ⟨_, rfl⟩
      have HR1 := Lib.hid hR1
      have hap : Hid (∀ v' : Value, (∀ r, v'.ownBlock = some r → v.ownBlock = some r ∨ X2.heap.size ≤ r) → ∀ k, X.heap.size ≤ k → k < X2.heap.size → k ≠ X.heap.size + 1 → ¬ TR bl v' R1 k) := by
        intro v' h1 k hk1 hk2 hk3 ht
        rcases ht with e | e | e
        · omega
        · rcases h1 k e with e | e
          · have := (HIT.out.own_lt e).2; omega
          · omega
        · rw [HR1.out] at e
          rcases e with e | e
          · have := (HIT.out.tr_lt (.inr (.inr e))).2; omega
          · exact hk3 e
      have hit2 : Hid (It B bl ow oy bw b L R1 v v l X2) := by
        rw [hR1]
        exact (HIT.out.kept HKX.out).more (p := X.heap.size + 1) (by omega) ⟨fun h => by have := (HIT.out.tr_lt h).2; omega, by omega, by omega, by omega⟩ (hk2.cell HC6.out) ((hk2.cells.2 _ 0 (lt_of_cell HC6.out)).trans HF6.out)
      have hj2 : Hid (J (TR bl v R1) pre X2) := by
        refine HHOST.out.turn HJ.out (grownBy_kept (World.grownBy.refl X none) HKX.out) (fun r e => by cases e) (fun r h => ?_)
        rw [hR1] at h
        rcases h with h | h | h | h
        · exact .inl (.inl h)
        · exact .inl (.inr (.inl h))
        · exact .inl (.inr (.inr h))
        · exact .inr (by omega)
      have h5 : Hid (X2.cell? ⟨X.heap.size, 0, none⟩ = some (.int .u32 (sI (setS l)))) := hk2.cell HC5.out
      clear hstat hk2 hd1 hd2 hz hR1 c1 c4 c5 hs2
      go_wp2_with fail
      refine range_ready (c1 := d1) (c2 := d2) (b := b) (W := W) (d := setS l) rfl HST.out hn rfl
        (fun xs Y => InI B bl ow oy bw b L J l v R1 X.heap.size X2 (pre ++ (xs.map Subtype.val).flatMap fun p => ordersF W f (setS l ||| oneS p) (l ++ [(p : Int)])) Y)
        (fun cd xs Y => cd = .ret ∧ InX B bl Jx v R1 (X.heap.size + 1) X2 pre ((xs.map Subtype.val).flatMap fun p => ordersF W f (setS l ||| oneS p) (l ++ [(p : Int)])) Y) ?hI ?hIx ?h0
        (fun x => { tmps := #[.int .u32 (sI (setS l)), .pointer (some ⟨bl, 0, none⟩), .pointer (some ⟨ow, 0, none⟩), .pointer (some ⟨oy, 0, none⟩), .pointer (some ⟨bw, 0, none⟩), .pointer (some ⟨X.heap.size, 0, none⟩), .pointer (some ⟨X.heap.size + 1, 0, none⟩), .int .i64 x.val,
          .slice ao l.length c, .int .i64 l.length, .pointer (some ⟨b, 0, none⟩), .pointer (some ⟨b, 0, none⟩), .pointer (some ⟨b, 0, none⟩), .int .i64 W.n, .bool false, undef, undef, undef, .pointer (some ⟨b, 0, none⟩), .int .u32 (sI (setS l)), .func (.func 146) #[] #[.pointer (some ⟨d1, 0, none⟩), .pointer (some ⟨d2, 0, none⟩)], .int .i64 x.val,
          undef, undef, undef, undef, undef, undef, undef, undef, undef, undef, undef, undef, undef, undef, undef, undef], defers := [] }) ?assign ?body ?done ?stop
      case hI => exact InI.own HHOST.out (by have := HSZ.out.1; omega) ⟨by have := HSZ.out.1; omega, by have := HSZ.out.1; omega, by have := HSZ.out.1; omega⟩ _
      case hIx => exact fun cd => InX.own HHOST.out (by have := HSZ.out.1; omega) (cd = .ret) _
      case h0 => exact ⟨v, fun r e => .inl e, hit2.out, by simpa using hj2.out, h5.out, Wk.refl _ _ _⟩
      case assign =>
        intro l' x Y K hK
        gi_wp2
        exact hK
      case body =>
        rintro l' pre' x Y ⟨v', hv', hit', hj', hc5', hw'⟩ hstat
        have HV' := Lib.hid hv'
        have HI := Lib.hid hit'
        have HJ' := Lib.hid hj'
        have HC5' := Lib.hid hc5'
        have HW' := Lib.hid hw'
        have HT := Lib.hid hstat
        have hcv := hit'.cv
        have hblY := lt_of_cell hcv
        obtain ⟨hxn, hxr⟩ := mem_readyL.1 x.2
        have hx32 : x.val < 32 := by omega
        have HXL : Hid ((x.val : Int) ∉ l) := by
          unfold readyB at hxr
          rw [hasS_setS _ (fun p hp => by have := HIN.out p hp; omega)] at hxr
          simp at hxr
          exact hxr.1
        have HOL : Hid (l.length < 1099511627776) := by have := HLE.out; show _ < _; omega
        have HBS : Hid (B ≤ (Y.alloc (.cells #[Value.int .i64 (x.val : Int)] 3)).heap.size) := by have := hit'.n.1; show _ ≤ _; simp; omega
        have HCL : Hid ((Y.alloc (.cells #[Value.int .i64 (x.val : Int)] 3)).cell? ⟨Y.heap.size, 0, none⟩ = some (.int .i64 x.val)) := by show _ = _; simp [go_sem]
        clear hv' hit' hj' hc5' hw' hstat hxr
        gi_wp2_with (gi_at_builtin; refine append_at _ rfl _ _ rfl B v' l rfl (HI.out.own.kept ((Kept.refl _).alloc _)) Y.heap.size 1 x.val rfl HCL.out HOL.out HBS.out ?_; intro g' c' w1 hown1 hg1 hat1; have hA := (HI.out.kept ((Kept.refl Y).alloc (.cells #[Value.int .i64 (x.val : Int)] 3))).app (l' := l ++ [(x.val : Int)]) hg1 hown1 (hat1.imp (fun e => by simpa [Value.ownBlock] using e) (fun e => by simpa [Value.ownBlock] using e)); have hcv1 := hA.cv; have hfv1 := hA.fv; have HS := Lib.hid (step_app HHOST.out HI.out HJ'.out hown1 hg1 hat1); clear hown1 hg1 hat1 hA hcv hblY)
        obtain ⟨Z1, hZ1⟩ : ∃ Z, Z = (w1.setCell ⟨bl, 0, none⟩ (.slice (some ⟨g', 0, none⟩) (l.length + 1) c')) := ⟨_, rfl⟩
        rw [← hZ1] at HS ⊢
        obtain ⟨s1, s2, s3, s4⟩ := HS.out
        have hapY := hap.out v' HV'.out
        have S1 := Lib.hid s1
        have S2 := Lib.hid s2
        have S3 := Lib.hid s3
        have S4 := Lib.hid s4
        have k1 := s1.cb
        have k2 := s3.cell HC5'.out (by omega) (hapY _ (by omega) (by have := HSZ.out.1; omega) (by omega))
        unfold walkV at k1
        have hlo : l.length + 1 < W.n + 1 := by have := HLE.out; omega
        have hnd2 : (l ++ [(x.val : Int)]).Nodup := by
          rw [List.nodup_append]
          exact ⟨HND.out, by simp, fun a ha b hb e => by simp at hb; subst hb; subst e; exact HXL.out ha⟩
        have hin2 : ∀ p ∈ l ++ [(x.val : Int)], 0 ≤ p ∧ p < (W.n : Int) := fun p hp => by
          rcases List.mem_append.1 hp with h | h
          · exact HIN.out p h
          · simp at h; subst h; omega
        have hih := IH.out (l ++ [(x.val : Int)]) _ R1 _ Z1.drew (by have := HF.out; have := HLE.out; simp; omega) (by simp; omega) hin2 hnd2 (s1.kept (Kept.refl _).drew) (HHOST.out.turn s2 (grownBy_kept (World.grownBy.refl Z1 none) (Kept.refl Z1).drew) (fun r e => by cases e) (fun r h => .inl h))
        rw [setS_snoc_nat] at hih
        have HIH := Lib.hid hih
        clear hih s1 s2 s3 s4 HS hlo hnd2 hin2 hcv1 hfv1 hZ1 hapY
        refine regionIn_tail 5 (by kernel_rfl) (by kernel_rfl) (by kernel_rfl) ?_
        simp only [List.take_succ_cons, List.take_zero, List.drop_succ_cons, List.drop_zero]
        iterate 3 still_step
        still_call Calls_still (one_any _ _ hx32)
        still_step
        refine wpStill_nil ?_
        go_wp2_with fail
        refine HIH.out.mono ?_
        clear HIH k1 k2
        have HRY : Hid (∀ r, TR bl v' R1 r → TR bl v R1 r ∨ X2.heap.size ≤ r) := fun r h => by
          rcases h with h | h | h
          · exact .inl (.inl h)
          · exact (HV'.out r h).imp (fun e => .inr (.inl e)) id
          · exact .inl (.inr (.inr h))
        have HYS : Hid (X2.heap.size ≤ Y.heap.size) := HW'.out.size
        have HAP : Hid ((B ≤ d1 ∧ B ≤ d2 ∧ B ≤ X2.heap.size) ∧ ¬ TR bl v' R1 d1 ∧ ¬ TR bl v' R1 d2 ∧ ¬ TR bl v' R1 X.heap.size) := by
          have hS := HSZ.out
          have hap2 := hap.out v' HV'.out
          exact ⟨⟨by omega, by omega, by omega⟩, hap2 d1 (by omega) (by omega) (by omega), hap2 d2 (by omega) (by omega) (by omega), hap2 _ (by omega) (by omega) (by omega)⟩
        have HLL : Hid (wrap64 (l.length : Int) = (l.length : Int)) := IntWalk.wrap64_in _ (by have := HLE.out; omega)
        have HBX : Hid (B ≤ X.heap.size) := hB
        rintro e Y3 (⟨rfl, v3, hv3, hit3, hj3, hw3⟩ | ⟨rfl, T3, q3, ht1, ht2, hq3, hj3, hr3, hw3⟩)
        · obtain ⟨g3, n3, c3, hv3e, hlc, hwr, hln⟩ := pop_facts hit3.own (Nat.lt_of_lt_of_le HLE.out hn)
          subst hv3e
          have HV3 := Lib.hid hv3
          have HI3 := Lib.hid hit3
          have HJ3 := Lib.hid hj3
          have HW3 := Lib.hid hw3
          have cv3 := hit3.cv
          have fv3 := hit3.fv
          have lt3 := lt_of_cell cv3
          clear hv3 hit3 hj3 hw3
          go_wp2
          unfold onlyN
          gi_wp2
          obtain rfl : l.length = n3 := hln.out
          have hz13 : Wk B (TR bl v' R1) Y (Y3.setCell ⟨bl, 0, none⟩ (.slice (some ⟨g3, 0, none⟩) l.length c3)) :=
            (S3.out.trans (T' := TR bl (.slice (some ⟨g', 0, none⟩) (l.length + 1) c') R1) (⟨HW3.out.size, HW3.out.same⟩ : Wk B _ Z1 Y3) (fun r h => by
              rcases h with h | h | h
              · exact .inl (.inl h)
              · have h : g' = r := by simpa [Value.ownBlock] using h
                subst h
                exact S4.out.imp (fun e => .inr (.inl e.symm)) id
              · exact .inl (.inr (.inr h)))).trans (T' := fun r => r = bl) (Wk.of_grownBy (grownBy_setCell' Y3 bl _) (fun r e => by cases e; exact .inl rfl)) (fun r h => .inl (.inl h))
          have hj4 := HHOST.out.turn (T' := TR bl (.slice (some ⟨g3, 0, none⟩) l.length c3) R1) HJ3.out (grownBy_setCell' Y3 bl (.slice (some ⟨g3, 0, none⟩) l.length c3)) (fun r e => by cases e; exact .inl (.inl rfl)) (fun r h => .inl h)
          obtain ⟨⟨b1, b2, b3⟩, n1, n2, n3⟩ := HAP.out
          refine ⟨HI.out.keeps hz13 b3, ⟨hz13.cell HT.out.c1 b1 n1, hz13.cell HT.out.c2 b2 n2, HHOST.out.web hj4⟩, .slice (some ⟨g3, 0, none⟩) l.length c3, fun r e => ?_, HI3.out.pop.store, ?_, hz13.cell HC5'.out HBX.out n3, HW'.out.trans (T' := TR bl v' R1) hz13 HRY.out⟩
          · have h1 := HV3.out r e
            rcases h1 with h1 | h1
            · have h1 : g' = r := by simpa [Value.ownBlock] using h1
              subst h1
              rcases S4.out with h2 | h2
              · exact HV'.out _ h2.symm
              · exact .inr (Nat.le_trans HYS.out h2)
            · have h2 : X2.heap.size ≤ r := Nat.le_trans HYS.out (Nat.le_trans S3.out.size h1)
              exact .inr h2
          · have e : pre ++ ((pre' ++ [x]).map Subtype.val).flatMap (fun p => ordersF W f (setS l ||| oneS p) (l ++ [(p : Int)])) = pre ++ (pre'.map Subtype.val).flatMap (fun p => ordersF W f (setS l ||| oneS p) (l ++ [(p : Int)])) ++ ordersF W f (setS l ||| oneS x.val) (l ++ [(x.val : Int)]) := by
              rw [List.map_append, List.flatMap_append, ← List.append_assoc]
              simp
            rw [e]
            exact hj4
        · have HJ3 := Lib.hid hj3
          have HT1 := Lib.hid ht1
          have HT2 := Lib.hid ht2
          have HQ3 := Lib.hid hq3
          have HW3 := Lib.hid hw3
          have hp6 : R1 (X.heap.size + 1) := by rw [HR1.out]; exact .inr rfl
          obtain ⟨⟨u6, cv3⟩, fv3⟩ := hr3 _ hp6
          have HR3 := Lib.hid hr3
          have HP6 := Lib.hid hp6
          have lt3 := lt_of_cell cv3
          clear hj3 ht1 ht2 hq3 hw3 hr3 hp6
          go_wp2
          unfold onlyN
          gi_wp2
          have hz13 : Wk B (TR bl v' R1) Y (Y3.setCell ⟨X.heap.size + 1, 0, none⟩ (.bool false)) :=
            (S3.out.trans (T' := TR bl (.slice (some ⟨g', 0, none⟩) (l.length + 1) c') R1) (⟨HW3.out.size, HW3.out.same⟩ : Wk B _ Z1 Y3) (fun r h => by
              rcases h with h | h | h
              · exact .inl (.inl h)
              · have h : g' = r := by simpa [Value.ownBlock] using h
                subst h
                exact S4.out.imp (fun e => .inr (.inl e.symm)) id
              · exact .inl (.inr (.inr h)))).trans (T' := fun r => r = X.heap.size + 1) (Wk.of_grownBy (grownBy_setCell' Y3 (X.heap.size + 1) _) (fun r e => by cases e; exact .inl rfl)) (fun r h => .inl (.inr (.inr (by rw [h]; exact HP6.out))))
          refine ⟨HI.out.keeps hz13 HAP.out.1.2.2, rfl, T3, (pre'.map Subtype.val).flatMap (fun p => ordersF W f (setS l ||| oneS p) (l ++ [(p : Int)])) ++ q3, HT1.out, fun r h => ?_, ?_, ?_, cell_set_same cv3, fun r h => ?_, HW'.out.trans (T' := TR bl v' R1) hz13 HRY.out⟩
          · rcases HT2.out r h with h1 | h1
            · rcases h1 with h1 | h1 | h1
              · exact .inl (.inl h1)
              · have h1 : g' = r := by simpa [Value.ownBlock] using h1
                subst h1
                rcases S4.out with h2 | h2
                · exact HRY.out _ (.inr (.inl h2.symm))
                · exact .inr (Nat.le_trans HYS.out h2)
              · exact .inl (.inr (.inr h1))
            · have h2 : X2.heap.size ≤ r := Nat.le_trans HYS.out (Nat.le_trans S3.out.size h1)
              exact .inr h2
          · rw [List.map_append, List.flatMap_append]
            refine List.prefix_append_right_inj _ |>.2 ?_
            simpa using HQ3.out
          · rw [← List.append_assoc]
            exact HHOST.out.turnx HJ3.out (grownBy_setCell' Y3 (X.heap.size + 1) _) (fun r e => by cases e; exact .inl (HT1.out _ HP6.out)) (fun r h => .inl h)
          · obtain ⟨⟨u, hu⟩, hf⟩ := HR3.out r h
            refine ⟨?_, by rw [World.frozen?_setCell]; exact hf⟩
            by_cases e : r = X.heap.size + 1
            · subst e; exact ⟨_, cell_set_same hu⟩
            · exact ⟨u, cell_set_block hu e⟩
      case done =>
        rintro De xs Y hD hxs ⟨v', hv', hit', hj', hc5', hw'⟩ hdef
        rw [hxs, ← HALL.out] at hj'
        have hp6 : R1 (X.heap.size + 1) := by rw [HR1.out]; exact .inr rfl
        obtain ⟨_, _, _, _, _, ⟨u6, cv3⟩, fv3⟩ := hit'.rc _ hp6
        have lt3 := lt_of_cell cv3
        have HV' := Lib.hid hv'
        have HI := Lib.hid hit'
        have HJ' := Lib.hid hj'
        have HW' := Lib.hid hw'
        have HDEF := Lib.hid hdef
        have HDD := Lib.hid hD
        have HP6 := Lib.hid hp6
        clear hv' hit' hj' hc5' hw' hdef hD hp6 hxs
        go_wp2
        have hS := HSZ.out
        have hd2 : (Y.setCell ⟨X.heap.size + 1, 0, none⟩ (.bool true)).heap[De]? = some (.deferred (some [])) := heap_set_deferred HDEF.out _ _
        have hgp := grownBy_putObj' (Y.setCell ⟨X.heap.size + 1, 0, none⟩ (.bool true)) De (.deferred none)
        have hdn : ¬ TR bl v' R1 De := fun h => by
          have := (HI.out.setR HP6.out (.bool true)).tr_cells h hd2
          cases this
        have hdd := HDD.out
        have hne6 : some (X.heap.size + 1) ≠ some De := fun e => by have := Option.some.inj e; omega
        refine ⟨by simp, .inl ⟨De, _, rfl, run_takeDeferred hd2, ?_⟩⟩
        refine ⟨_, results_cell rfl _ _ ⟨X.heap.size + 1, 0, none⟩ rfl (.bool true) (load_bool (hgp.cell (cell_set_same cv3) hne6)), .inl ⟨rfl, v', fun r e => (HV'.out r e).imp id (fun h => by omega), ?_, ?_, ?_⟩⟩
        · refine ((HI.out.setR HP6.out (.bool true)).grown hgp (fun r e => ?_)).less (fun r h => by rw [HR1.out]; exact .inl h)
          cases e
          exact ⟨hdn, by omega, by omega, by omega⟩
        · have j1 := HHOST.out.turn (T' := TR bl v' R1) HJ'.out (grownBy_setCell' Y (X.heap.size + 1) (.bool true)) (fun r e => by cases e; exact .inl (.inr (.inr HP6.out))) (fun r h => .inl h)
          exact HHOST.out.turn j1 hgp (fun r e => by cases e; exact .inr ⟨by omega, _, hd2, rfl⟩) (fun r h => .inl (h.imp id (fun h => h.imp id (fun h => by rw [HR1.out]; exact .inl h))))
        · have w1 : Wk B (TR bl v R) X X2 := Wk.of_kept HKX.out
          have w2 := w1.trans (T' := TR bl v R1) HW'.out (fun r h => by
            rcases h with h | h | h
            · exact .inl (.inl h)
            · exact .inl (.inr (.inl h))
            · rw [HR1.out] at h
              rcases h with h | h
              · exact .inl (.inr (.inr h))
              · exact .inr (by omega))
          exact (w2.trans (T' := fun r => r = X.heap.size + 1) (Wk.of_grownBy (grownBy_setCell' Y (X.heap.size + 1) _) (fun r e => by cases e; exact .inl rfl)) (fun r h => .inr (by omega))).trans (T' := fun r => r = De) (Wk.of_grownBy hgp (fun r e => by cases e; exact .inl rfl)) (fun r h => .inr (by omega))
      case stop =>
        rintro De cd xs Y hD hpre ⟨rfl, T', q, ht1, ht2, hq, hjx, cv3, hrc, hw'⟩ hdef
        have HRC := Lib.hid hrc
        have hp6 : R1 (X.heap.size + 1) := by rw [HR1.out]; exact .inr rfl
        have lt3 := lt_of_cell cv3
        have HT1 := Lib.hid ht1
        have HT2 := Lib.hid ht2
        have HQ := Lib.hid hq
        have HPRE := Lib.hid hpre
        have HJX := Lib.hid hjx
        have HW' := Lib.hid hw'
        have HDEF := Lib.hid hdef
        have HDD := Lib.hid hD
        have HP6 := Lib.hid hp6
        have HC6' := Lib.hid cv3
        clear ht1 ht2 hq hjx hw' hdef hD hp6 hpre hrc
        go_wp2
        have hS := HSZ.out
        have hd2 : Y.heap[De]? = some (.deferred (some [])) := HDEF.out
        have hgp := grownBy_putObj' Y De (.deferred none)
        have hdd := HDD.out
        have hne6 : some (X.heap.size + 1) ≠ some De := fun e => by have := Option.some.inj e; omega
        have c6 := HC6'.out
        refine ⟨by simp, .inl ⟨De, _, rfl, run_takeDeferred hd2, ?_⟩⟩
        refine ⟨_, results_cell rfl _ _ ⟨X.heap.size + 1, 0, none⟩ rfl (.bool false) (load_bool (hgp.cell c6 hne6)), .inr ⟨rfl, T', q, fun r h => HT1.out r (by rw [HR1.out]; exact .inl h), fun r h => ?_, ?_, ?_, fun r h => ?_, ?_⟩⟩
        · rcases HT2.out r h with h1 | h1
          · rcases h1 with h1 | h1 | h1
            · exact .inl (.inl h1)
            · exact .inl (.inr (.inl h1))
            · rw [HR1.out] at h1
              rcases h1 with h1 | h1
              · exact .inl (.inr (.inr h1))
              · exact .inr (by omega)
          · exact .inr (by omega)
        · obtain ⟨t, ht⟩ := HPRE.out
          rw [HALL.out, ← ht, List.flatMap_append]
          exact HQ.out.trans (List.prefix_append _ _)
        · exact HHOST.out.turnx HJX.out hgp (fun r e => by cases e; exact .inr ⟨by omega, _, hd2, rfl⟩) (fun r h => .inl h)
        · obtain ⟨⟨u, hu⟩, hf⟩ := HRC.out r (by rw [HR1.out]; exact .inl h)
          have hne : some r ≠ some De := fun e => by
            have e := Option.some.inj e
            subst e
            obtain ⟨o, ho, hc⟩ := cells_of_cell hu
            rw [hd2] at ho
            cases ho
            cases hc
          exact ⟨⟨u, hgp.cell hu hne⟩, (World.frozen?_of_block (a := ⟨r, 0, none⟩) (hgp.block r (lt_of_cell hu) hne)).trans hf⟩
        · have w1 : Wk B (TR bl v R) X X2 := Wk.of_kept HKX.out
          have w2 := w1.trans (T' := TR bl v R1) HW'.out (fun r h => by
            rcases h with h | h | h
            · exact .inl (.inl h)
            · exact .inl (.inr (.inl h))
            · rw [HR1.out] at h
              rcases h with h | h
              · exact .inl (.inr (.inr h))
              · exact .inr (by omega))
          exact w2.trans (T' := fun r => r = De) (Wk.of_grownBy hgp (fun r e => by cases e; exact .inl rfl)) (fun r h => .inr (by omega))
end Go.Proofs.Yteljjkghjbofnaa
