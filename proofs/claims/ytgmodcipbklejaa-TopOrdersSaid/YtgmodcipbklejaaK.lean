/- reading.woven: at observations ObOver. -/
import Derived.Test.YtgmodcipbklejaaF
set_option maxRecDepth 100000
namespace Go.Proofs.Ytgmodcipbklejaa
open Go Go.Proofs Go.RowKit
attribute [local go_sem] Oper.semAt_some

/-- Observations that say who is over whom. -/
def OverAll (N : Nat) (c : List Obs) : Prop := ∀ x ∈ c, x.kind = 1 ∧ 1 ≤ x.a ∧ x.a ≤ (N : Int) ∧ 1 ≤ x.b ∧ x.b ≤ (N : Int) ∧ x.a ≠ x.b ∧ 1 ≤ x.id
def Ed (c : List Obs) (x y : Nat) : Prop := ∃ o ∈ c, o.a = (x : Int) ∧ o.b = (y : Int)
theorem Ed.range {N : Nat} {c : List Obs} {x y : Nat} (hc : OverAll N c) (h : Ed c x y) : 1 ≤ x ∧ x ≤ N ∧ 1 ≤ y ∧ y ≤ N := by
  obtain ⟨o, ho, e1, e2⟩ := h
  obtain ⟨-, h1, h2, h3, h4, -, -⟩ := hc o ho
  omega
/-- The table of who is over whom. -/
def OvOk (c : List Obs) (ov : Nat → Nat → Int) : Prop := ∀ a b, 0 ≤ ov a b ∧ (0 < ov a b ↔ Ed c a b)
theorem OvOk.start : OvOk [] (fun _ _ => 0) := fun a b => ⟨Int.le_refl 0, by simp [Ed]⟩
theorem OvOk.put {c : List Obs} {ov : Nat → Nat → Int} {x : Obs} {a b : Nat} (h : OvOk c ov) (ha : x.a = (a : Int)) (hb : x.b = (b : Int)) (hid : 1 ≤ x.id) : OvOk (c ++ [x]) (putF ov a b x.id) := by
  intro p q
  have he : Ed (c ++ [x]) p q ↔ Ed c p q ∨ (p = a ∧ q = b) := by
    unfold Ed
    constructor
    · rintro ⟨o, ho, e1, e2⟩
      rcases List.mem_append.1 ho with ho | ho
      · exact .inl ⟨o, ho, e1, e2⟩
      · rw [List.mem_singleton.1 ho] at e1 e2
        exact .inr ⟨by omega, by omega⟩
    · rintro (⟨o, ho, e1, e2⟩ | ⟨rfl, rfl⟩)
      · exact ⟨o, List.mem_append_left _ ho, e1, e2⟩
      · exact ⟨x, List.mem_append_right _ (List.mem_singleton.2 rfl), ha, hb⟩
  rw [he]
  obtain ⟨h1, h2⟩ := h p q
  have h3 := h a b
  unfold putF
  by_cases hc : ov a b = 0 ∨ x.id < ov a b
  · rw [if_pos hc]
    unfold upd2
    by_cases e : p = a ∧ q = b
    · rw [if_pos e]
      exact ⟨by omega, by simp [e]; omega⟩
    · rw [if_neg e]
      exact ⟨h1, by rw [h2]; simp [e]⟩
  · rw [if_neg hc]
    refine ⟨h1, ?_⟩
    constructor
    · intro h; exact .inl (h2.1 h)
    · rintro (h | ⟨rfl, rfl⟩)
      · exact h2.2 h
      · omega
/-- What the web says. -/
structure WebOk (N : Nat) (c : List Obs) (re st : Nat → Nat → Bool) : Prop where
  re : ∀ a b, 1 ≤ a → a ≤ N → 1 ≤ b → b ≤ N → re a b = decide (a = b)
  sound : ∀ D : Int → Int, (∀ x ∈ c, D x.a < D x.b) → ∀ a b : Nat, st a b = true → D a < D b
  edge : ∀ a b, Ed c a b → st a b = true
  two : ∀ a k b, Ed c a k → Ed c k b → st a b = true
def WovenPost2 (N : Nat) (c : List Obs) (w : World) (e : Ending) (w' : World) : Prop := ∃ g ov re st, e = .returned (.pointer (some ⟨g, 0, none⟩)) ∧ RBox w' g N ov re st ∧ w.heap.size ≤ g ∧ Kept w w' ∧ WebOk N c re st

theorem upd2_self {α : Type} (f : Nat → Nat → α) (a b : Nat) {v : α} (h : f a b = v) : upd2 f a b v = f := by
  funext x y
  unfold upd2
  split
  · rename_i e; rw [e.1, e.2, h]
  · rfl
/-- The reached ones, as far as the rows before a. -/
def R2 (re : Nat → Nat → Bool) (a : Nat) : Prop := (∀ x y, re x y = true → x = y) ∧ ∀ x, 1 ≤ x → x < a → re x x = true
def R2b (re : Nat → Nat → Bool) (a b : Nat) : Prop := R2 re a ∧ (a < b → re a a = true)
theorem R2.start : R2 (fun _ _ => false) 1 := ⟨fun x y h => (by simp at h), fun x h1 h2 => (by omega)⟩
theorem R2.row {re : Nat → Nat → Bool} {a : Nat} (h : R2 re a) : R2b re a 1 ∨ a = 0 := by
  by_cases e : a = 0
  · exact .inr e
  · exact .inl ⟨h, fun h2 => by omega⟩
theorem R2b.done {re : Nat → Nat → Bool} {a b : Nat} (h : R2b re a b) (hab : a < b) : R2 re (a + 1) := ⟨h.1.1, fun x h1 h2 => by
  by_cases e : x = a
  · rw [e]; exact h.2 hab
  · exact h.1.2 x h1 (by omega)⟩
theorem R2b.next {re : Nat → Nat → Bool} {a b : Nat} (h : R2b re a b) : R2b (upd2 re a b (decide (a = b))) a (b + 1) := by
  obtain ⟨⟨h1, h2⟩, h3⟩ := h
  refine ⟨⟨fun x y hx => ?_, fun x g1 g2 => ?_⟩, fun g => ?_⟩
  · unfold upd2 at hx
    split at hx
    · rename_i e; have := of_decide_eq_true hx; omega
    · exact h1 x y hx
  · unfold upd2
    rw [if_neg (by omega)]
    exact h2 x g1 g2
  · unfold upd2
    by_cases e : a = b
    · rw [if_pos ⟨rfl, e⟩]; exact decide_eq_true e
    · rw [if_neg (by omega)]; exact h3 (by omega)
theorem R2.all {re : Nat → Nat → Bool} {N : Nat} (h : R2 re (N + 1)) (a b : Nat) (h1 : 1 ≤ a) (h2 : a ≤ N) : re a b = decide (a = b) := by
  by_cases e : a = b
  · subst e; rw [h.2 a h1 (by omega)]; simp
  · cases e2 : re a b with
    | false => simp [e]
    | true => exact absurd (h.1 a b e2) e
/-- Who is before whom, as far as the pairs before (a, b), (p, q). -/
def A4 (c : List Obs) (st : Nat → Nat → Bool) (a : Nat) : Prop := (∀ x y, st x y = true → Ed c x y) ∧ ∀ x y, x < a → Ed c x y → st x y = true
def A4b (c : List Obs) (st : Nat → Nat → Bool) (a b : Nat) : Prop := A4 c st a ∧ ∀ y, y < b → Ed c a y → st a y = true
def A4d (c : List Obs) (st : Nat → Nat → Bool) (a b p q : Nat) : Prop := A4b c st a b ∧ ((a < p ∨ (a = p ∧ b < q)) → st a b = true)
section
variable {N : Nat} {c : List Obs} {st : Nat → Nat → Bool} {a b p q : Nat}
theorem A4.start (hc : OverAll N c) : A4 c (fun _ _ => false) 1 := ⟨fun x y h => (by simp at h), fun x y h e => (by have := e.range hc; omega)⟩
theorem A4.row (hc : OverAll N c) (h : A4 c st a) : A4b c st a 1 := ⟨h, fun y h e => (by have := e.range hc; omega)⟩
theorem A4b.none (h : A4b c st a b) (hn : ¬ Ed c a b) : A4b c st a (b + 1) := ⟨h.1, fun y hy e => by
  by_cases e2 : y = b
  · rw [e2] at e; exact absurd e hn
  · exact h.2 y (by omega) e⟩
theorem A4b.cols (h : A4b c st a b) (ha : 1 ≤ a) (hb : 1 ≤ b) : A4d c st a b 1 1 := ⟨h, fun h2 => by omega⟩
theorem A4d.next (h : A4d c st a b p q) (he : Ed c a b) {v : Bool} (hv : v = (st p q || (decide (p = a) && decide (b = q)))) : A4d c (upd2 st p q v) a b p (q + 1) := by
  obtain ⟨⟨⟨h1, h2⟩, h3⟩, h4⟩ := h
  have up : ∀ x y, st x y = true → upd2 st p q v x y = true := fun x y hx => by
    unfold upd2
    split
    · rename_i e; rw [hv, ← e.1, ← e.2, hx]; rfl
    · exact hx
  refine ⟨⟨⟨fun x y hx => ?_, fun x y g e => up _ _ (h2 x y g e)⟩, fun y g e => up _ _ (h3 y g e)⟩, fun g => ?_⟩
  · unfold upd2 at hx
    split at hx
    · rename_i e
      rw [hv, Bool.or_eq_true, Bool.and_eq_true, decide_eq_true_eq, decide_eq_true_eq] at hx
      rcases hx with hx | ⟨e1, e2⟩
      · rw [e.1, e.2]; exact h1 p q hx
      · rw [e.1, e.2, e1, ← e2]; exact he
    · exact h1 x y hx
  · by_cases e : a = p ∧ b = q
    · unfold upd2
      rw [if_pos e, hv, decide_eq_true e.1.symm, decide_eq_true e.2]
      simp
    · exact up _ _ (h4 (by omega))
theorem A4d.row (h : A4d c st a b p q) (hq : b < q) (hb : 1 ≤ b) : A4d c st a b (p + 1) 1 := ⟨h.1, fun g => h.2 (by omega)⟩
theorem A4d.done (h : A4d c st a b p q) (hp : a < p) : A4b c st a (b + 1) := ⟨h.1.1, fun y hy e => by
  by_cases e2 : y = b
  · rw [e2]; exact h.2 (.inl hp)
  · exact h.1.2 y (by omega) e⟩
theorem A4b.done (hc : OverAll N c) (h : A4b c st a b) (hb : N < b) : A4 c st (a + 1) := ⟨h.1.1, fun x y hx e => by
  by_cases e2 : x = a
  · subst e2; exact h.2 y (by have := e.range hc; omega) e
  · exact h.1.2 x y (by omega) e⟩
theorem A4.all (hc : OverAll N c) (h : A4 c st a) (ha : N < a) (x y : Nat) : st x y = true ↔ Ed c x y := ⟨h.1 x y, fun e => h.2 x y (by have := e.range hc; omega) e⟩
/-- Who is before whom, closed as far as the things before k, the rows before a, the columns before b. -/
def A5 (c : List Obs) (st : Nat → Nat → Bool) (k : Nat) : Prop :=
  (∀ D : Int → Int, (∀ x ∈ c, D x.a < D x.b) → ∀ a b : Nat, st a b = true → D a < D b) ∧ (∀ x y, Ed c x y → st x y = true) ∧ ∀ m x y, m < k → Ed c x m → Ed c m y → st x y = true
def A5a (c : List Obs) (st : Nat → Nat → Bool) (k a : Nat) : Prop := A5 c st k ∧ ∀ x y, x < a → Ed c x k → Ed c k y → st x y = true
def A5b (c : List Obs) (st : Nat → Nat → Bool) (k a b : Nat) : Prop := A5a c st k a ∧ ∀ y, y < b → Ed c a k → Ed c k y → st a y = true
variable {k : Nat}
theorem A5.start (hc : OverAll N c) (h : ∀ x y, st x y = true ↔ Ed c x y) : A5 c st 1 := ⟨fun D hD a b hs => by
  obtain ⟨o, ho, e1, e2⟩ := (h a b).1 hs
  rw [← e1, ← e2]
  exact hD o ho, fun x y e => (h x y).2 e, fun m x y hm e => (by have := e.range hc; omega)⟩
theorem A5.row (hc : OverAll N c) (h : A5 c st k) : A5a c st k 1 := ⟨h, fun x y hx e => (by have := e.range hc; omega)⟩
theorem A5a.row (hc : OverAll N c) (h : A5a c st k a) : A5b c st k a 1 := ⟨h, fun y hy _ e => (by have := e.range hc; omega)⟩
theorem A5b.next (h : A5b c st k a b) {v : Bool} (hv : v = (st a b || (st a k && st k b))) : A5b c (upd2 st a b v) k a (b + 1) := by
  obtain ⟨⟨⟨h1, h2, h3⟩, h4⟩, h5⟩ := h
  have up : ∀ x y, st x y = true → upd2 st a b v x y = true := fun x y hx => by
    unfold upd2
    split
    · rename_i e; rw [hv, ← e.1, ← e.2, hx]; rfl
    · exact hx
  refine ⟨⟨⟨fun D hD x y hx => ?_, fun x y e => up _ _ (h2 x y e), fun m x y hm e f => up _ _ (h3 m x y hm e f)⟩, fun x y hx e f => up _ _ (h4 x y hx e f)⟩, fun y hy e f => ?_⟩
  · unfold upd2 at hx
    split at hx
    · rename_i e
      rw [hv, Bool.or_eq_true, Bool.and_eq_true] at hx
      rw [e.1, e.2]
      rcases hx with hx | ⟨g1, g2⟩
      · exact h1 D hD a b hx
      · have := h1 D hD a k g1; have := h1 D hD k b g2; omega
    · exact h1 D hD x y hx
  · by_cases e2 : y = b
    · subst e2
      unfold upd2
      rw [if_pos ⟨rfl, rfl⟩, hv, h2 _ _ e, h2 _ _ f]
      simp
    · exact up _ _ (h5 y (by omega) e f)
theorem A5b.done (hc : OverAll N c) (h : A5b c st k a b) (hb : N < b) : A5a c st k (a + 1) := ⟨h.1.1, fun x y hx e f => by
  by_cases e2 : x = a
  · subst e2; exact h.2 y (by have := f.range hc; omega) e f
  · exact h.1.2 x y (by omega) e f⟩
theorem A5a.done (hc : OverAll N c) (h : A5a c st k a) (ha : N < a) : A5 c st (k + 1) := ⟨h.1.1, h.1.2.1, fun m x y hm e f => by
  by_cases e2 : m = k
  · subst e2; exact h.2 x y (by have := e.range hc; omega) e f
  · exact h.1.2.2 m x y (by omega) e f⟩
theorem A5.all (hc : OverAll N c) {re : Nat → Nat → Bool} (h : A5 c st k) (hk : N < k) (hre : ∀ x y, 1 ≤ x → x ≤ N → re x y = decide (x = y)) : WebOk N c re st :=
  ⟨fun a b h1 h2 _ _ => hre a b h1 h2, h.1, h.2.1, fun a m b e f => h.2.2 m a b (by have := e.range hc; omega) e f⟩
end
set_option maxHeartbeats 4000000 in
theorem rwoven_any (N : Nat) (c : List Obs) (co : Option Addr) (cc : Nat) (w : World) (hN : N ≤ 24) (hc : OverAll N c) (hl : c.length ≤ 100) (hs : Obss w co c) :
    Calls Try.prog 31 #[.int .i64 N, .slice co c.length cc] w (WovenPost2 N c w) := by
  have HS := Lib.hid hs
  have HC := Lib.hid hc
  clear hs hc
  go_enter Try.func31, Try.ntmps31
  go_wp2_with fail
  obtain ⟨w0, e0, hk0, hs0, hb0⟩ := alloc_rweb w N
  rw [e0]
  clear e0
  obtain ⟨g, hg⟩ : ∃ g, w.heap.size = g := ⟨_, rfl⟩
  rw [hg] at hb0 hs0 ⊢
  have HG := Lib.hid hg
  have HK0 := Lib.hid hk0
  have HB0 := Lib.hid hb0
  clear hg hk0 hs0 hb0
  go_loopw [25] (fun iv wr => ∃ (i : Nat) (ov : Nat → Nat → Int), i ≤ c.length ∧ iv = .int .i64 i ∧ Kept w wr ∧ RBox wr g N ov (fun _ _ => false) (fun _ _ => false) ∧ OvOk (c.take i) ov) (fun iv _ => c.length - (intOf iv).toNat)
  case atStart => exact ⟨0, _, Nat.zero_le _, rfl, HK0.out, HB0.out, by simpa using OvOk.start⟩
  case round =>
    obtain ⟨i, ov, hi, rfl, hkr, hbr, hov⟩ := hrel
    have HKR := Lib.hid hkr
    have HBR := Lib.hid hbr
    have HOV := Lib.hid hov
    clear hkr hbr hov
    by_cases hlt : i < c.length
    case pos =>
      as_aux_lemma =>
        obtain ⟨x, hx⟩ : ∃ x, c[i] = x := ⟨_, rfl⟩
        have hxm : x ∈ c := by rw [← hx]; exact List.getElem_mem hlt
        obtain ⟨r1, r2, r3, r4, r5, r6, r7⟩ := HC.out x hxm
        obtain ⟨sb, off, rfl, c0, c1, c2, c3, c4, c5, c6⟩ := HS.out.kept HKR.out i hlt
        rw [hx] at c0 c1 c2 c3 c4 c5 c6
        have HTK : Hid (c.take (i + 1) = c.take i ++ [x]) := Lib.hid (by rw [List.take_succ_eq_append_getElem hlt, hx])
        have hsb := lt_of_cell c0
        clear hx hxm r6 hi
        obtain ⟨xi, xk, xr, xq, xa, xb, xv⟩ := x
        simp only [] at r1 r2 r3 r4 r5 r7 c0 c1 c2 c3 c4 c5 c6
        subst r1
        obtain ⟨a, rfl⟩ := Int.eq_ofNat_of_zero_le (show 0 ≤ xa by omega)
        obtain ⟨b, rfl⟩ := Int.eq_ofNat_of_zero_le (show 0 ≤ xb by omega)
        have HID := Lib.hid r7
        have HAB : Hid (a < 25 ∧ b < 25) := Lib.hid (by omega)
        have hbl := HBR.out.lt
        clear r2 r3 r4 r5 r7
        obtain ⟨w1, e1, hk1, hb1, hs1, -⟩ := alloc_obs wr xi xk xr 1 a b xv
        have HK1 := Lib.hid hk1
        have HB1 := Lib.hid hb1
        have HE1 := Lib.hid e1
        clear hk1 hb1 hs1 e1
        go_wp2_with fail
        rw [HE1.out]
        obtain ⟨g1, hg1⟩ : ∃ g, wr.heap.size = g := ⟨_, rfl⟩
        rw [hg1] at HB1 ⊢
        clear c0 c1 c2 c3 c4 c5 c6 hsb hg1
        obtain ⟨b0, b1, b2, b3, b4, b5, b6⟩ := HB1.out
        have hb := lt_of_cell b0
        simp only [] at b0 b1 b2 b3 b4 b5 b6
        refine region_tail 9 (by kernel_rfl) (by kernel_rfl) ?_
        simp only [List.take_succ_cons, List.take_zero, List.drop_succ_cons, List.drop_zero]
        iterate 9
          with_reducible refine wpStill_want ?_ (fun K hK => ?_)
          · rfl
          go_simp
          refine hK _ ?_
          clear hK K
        refine wpStill_nil ?_
        clear b0 b1 b2 b3 b4 b5 b6 hb
        go_wp2_with fail
        refine (put_any g N ov (fun _ _ => false) (fun _ _ => false) a b xi _ ((HBR.out.kept HK1.out).kept (Kept.refl _).drew) HAB.out.1 HAB.out.2).mono ?_
        rintro e w2 ⟨rfl, hb2, hg2⟩
        have HB2 := Lib.hid hb2
        have HK2 : Hid (Kept w w2) := Lib.hid (Kept.grown (HKR.out.trans HK1.out.drew) hg2 (fun r e => by cases e; exact Nat.le_of_eq HG.out))
        clear hb2 hg2
        go_wp2
        go_roundw
        case measure => simp [intOf]; omega
        case rel => exact ⟨i + 1, _, by omega, by go_num, HK2.out, HB2.out, by rw [HTK.out]; exact HOV.out.put rfl rfl HID.out⟩
    case neg =>
      have ei : c.take i = c := List.take_of_length_le (by omega)
      rw [ei] at HOV
      clear ei hi
      go_wp2_with fail
      clear hlt
      go_loopw [8] (fun av wr => ∃ (a : Nat) (re : Nat → Nat → Bool), 1 ≤ a ∧ a ≤ N + 1 ∧ av = .int .i64 a ∧ Kept w wr ∧ RBox wr g N ov re (fun _ _ => false) ∧ R2 re a) (fun av _ => N + 1 - (intOf av).toNat)
      case atStart => exact ⟨1, _, by omega, by omega, rfl, HKR.out, HBR.out, R2.start⟩
      case round =>
        clear HKR HBR
        obtain ⟨a, re, ha1, ha2, rfl, hkr, hbr, hr2⟩ := hrel
        have HKR := Lib.hid hkr
        have HBR := Lib.hid hbr
        have HR2 := Lib.hid hr2
        clear hkr hbr hr2
        by_cases hat : a ≤ N
        case pos =>
          as_aux_lemma =>
            go_wp2_with fail
            go_loopw [9] (fun bv wr => ∃ (b : Nat) (re : Nat → Nat → Bool), 1 ≤ b ∧ b ≤ N + 1 ∧ bv = .int .i64 b ∧ Kept w wr ∧ RBox wr g N ov re (fun _ _ => false) ∧ R2b re a b) (fun bv _ => N + 1 - (intOf bv).toNat)
            case atStart => exact ⟨1, _, by omega, by omega, rfl, HKR.out, HBR.out, HR2.out.row.resolve_right (by omega)⟩
            case round =>
              clear HKR HBR HR2
              obtain ⟨b, re, hb1, hb2, rfl, hkr, hbr, hr2⟩ := hrel
              have HKR := Lib.hid hkr
              have HBR := Lib.hid hbr
              have HR2 := Lib.hid hr2
              clear hkr hbr hr2
              have hai : (a : Int) < 25 := by omega
              have ha25 : a < 25 := by omega
              by_cases hbt : b ≤ N
              case pos =>
                have hbi : (b : Int) < 25 := by omega
                have hb25 : b < 25 := by omega
                have hgl := HBR.out.lt
                have hf := HBR.out.free (1876 + a * 25 + b)
                have hre := HBR.out.re a b ha25 hb25
                by_cases hab : a = b
                · subst hab
                  have HNX := Lib.hid HR2.out.next
                  simp only [decide_true] at HNX
                  go_wp2
                  refine region_tail 21 (by kernel_rfl) (by kernel_rfl) ?_
                  simp only [List.take_succ_cons, List.take_zero, List.drop_succ_cons, List.drop_zero]
                  iterate 7
                    with_reducible refine wpStill_want ?_ (fun K hK => ?_)
                    · rfl
                    go_simp
                    refine hK _ ?_
                    clear hK K
                  iterate 9
                    with_reducible refine wpStill_skip ?_ ?_
                    · rfl
                    simp only [Act.put, List.setIfInBounds_toArray, List.set_cons_zero, List.set_cons_succ]
                  iterate 5
                    with_reducible refine wpStill_want ?_ (fun K hK => ?_)
                    · rfl
                    go_simp
                    refine hK _ ?_
                    clear hK K
                  refine wpStill_nil ?_
                  go_wp2
                  go_roundw
                  case measure => simp [intOf]; omega
                  case rel => exact ⟨a + 1, _, by omega, by omega, by go_num, (HKR.out.setCell (p := ⟨g, 1876 + a * 25 + a, none⟩) (Nat.le_of_eq HG.out) _).drew, (HBR.out.setRe ha25 ha25 true).kept (Kept.refl _).drew, HNX.out⟩
                · have hsa := HBR.out.sa a b ha25 hb25
                  have hbe : ((a : Int) == (b : Int)) = false := by simp; omega
                  have HNX := Lib.hid HR2.out.next
                  rw [decide_eq_false hab] at HNX
                  go_wp2
                  refine region_tail 21 (by kernel_rfl) (by kernel_rfl) ?_
                  simp only [List.take_succ_cons, List.take_zero, List.drop_succ_cons, List.drop_zero]
                  iterate 21
                    with_reducible refine wpStill_want ?_ (fun K hK => ?_)
                    · rfl
                    go_simp
                    refine hK _ ?_
                    clear hK K
                  refine wpStill_nil ?_
                  go_wp2
                  go_roundw
                  case measure => simp [intOf]; omega
                  case rel => exact ⟨b + 1, _, by omega, by omega, by go_num, (HKR.out.setCell (p := ⟨g, 1876 + a * 25 + b, none⟩) (Nat.le_of_eq HG.out) _).drew, (HBR.out.setRe ha25 hb25 false).kept (Kept.refl _).drew, HNX.out⟩
              case neg =>
                go_wp2
                go_roundw
                case measure => simp [intOf]; omega
                case rel => exact ⟨a + 1, _, by omega, by omega, by go_num, HKR.out, HBR.out, HR2.out.done (by omega)⟩
        case neg =>
          have HRE : Hid (∀ x y, 1 ≤ x → x ≤ N → re x y = decide (x = y)) := Lib.hid fun x y h1 h2 => (show R2 re (N + 1) from (show N + 1 = a by omega) ▸ HR2.out).all x y h1 h2
          clear HR2 ha1 ha2
          go_wp2_with fail
          clear hat
          go_loopw [10] (fun kv wr => ∃ k : Nat, 1 ≤ k ∧ k ≤ N + 1 ∧ kv = .int .i64 k ∧ Kept w wr ∧ RBox wr g N ov re (fun _ _ => false)) (fun kv _ => N + 1 - (intOf kv).toNat)
          case atStart => exact ⟨1, by omega, by omega, rfl, HKR.out, HBR.out⟩
          case round =>
            clear HKR HBR
            obtain ⟨k, hk1, hk2, rfl, hkr, hbr⟩ := hrel
            have HKR := Lib.hid hkr
            have HBR := Lib.hid hbr
            clear hkr hbr
            by_cases hkt : k ≤ N
            case pos =>
              as_aux_lemma =>
                go_wp2_with fail
                go_loopw [11] (fun av wr => ∃ a : Nat, 1 ≤ a ∧ a ≤ N + 1 ∧ av = .int .i64 a ∧ Kept w wr ∧ RBox wr g N ov re (fun _ _ => false)) (fun av _ => N + 1 - (intOf av).toNat)
                case atStart => exact ⟨1, by omega, by omega, rfl, HKR.out, HBR.out⟩
                case round =>
                  clear HKR HBR
                  obtain ⟨a, ha1, ha2, rfl, hkr, hbr⟩ := hrel
                  have HKR := Lib.hid hkr
                  have HBR := Lib.hid hbr
                  clear hkr hbr
                  by_cases hat : a ≤ N
                  case neg =>
                    go_wp2
                    go_roundw
                    case measure => simp [intOf]; omega
                    case rel => exact ⟨k + 1, by omega, by omega, by go_num, HKR.out, HBR.out⟩
                  go_wp2_with fail
                  go_loopw [12] (fun bv wr => ∃ b : Nat, 1 ≤ b ∧ b ≤ N + 1 ∧ bv = .int .i64 b ∧ Kept w wr ∧ RBox wr g N ov re (fun _ _ => false)) (fun bv _ => N + 1 - (intOf bv).toNat)
                  case atStart => exact ⟨1, by omega, by omega, rfl, HKR.out, HBR.out⟩
                  case round =>
                    clear HKR HBR
                    obtain ⟨b, hb1, hb2, rfl, hkr, hbr⟩ := hrel
                    have HKR := Lib.hid hkr
                    have HBR := Lib.hid hbr
                    clear hkr hbr
                    by_cases hbt : b ≤ N
                    case neg =>
                      go_wp2
                      go_roundw
                      case measure => simp [intOf]; omega
                      case rel => exact ⟨a + 1, by omega, by omega, by go_num, HKR.out, HBR.out⟩
                    have hki : (k : Int) < 25 := by omega
                    have hai : (a : Int) < 25 := by omega
                    have hbi : (b : Int) < 25 := by omega
                    have hk25 : k < 25 := by omega
                    have ha25 : a < 25 := by omega
                    have hb25 : b < 25 := by omega
                    have hgl := HBR.out.lt
                    have hf := HBR.out.free (1876 + a * 25 + b)
                    have q1 := HBR.out.re a b ha25 hb25
                    have q2 := HBR.out.re a k ha25 hk25
                    have q3 := HBR.out.re k b hk25 hb25
                    have HST : Hid (∀ v, re a b = v → RBox (wr.setCell ⟨g, 1876 + a * 25 + b, none⟩ (.bool v)).drew g N ov re (fun _ _ => false)) := Lib.hid fun v hv => by
                      have h := (HBR.out.setRe ha25 hb25 v).kept (Kept.refl _).drew
                      rwa [upd2_self re a b hv] at h
                    have e1 := HRE.out a b ha1 hat
                    have e2 := HRE.out a k ha1 hat
                    have e3 := HRE.out k b hk1 hkt
                    obtain ⟨v1, hv1⟩ : ∃ v, re a b = v := ⟨_, rfl⟩
                    obtain ⟨v2, hv2⟩ : ∃ v, re a k = v := ⟨_, rfl⟩
                    obtain ⟨v3, hv3⟩ : ∃ v, re k b = v := ⟨_, rfl⟩
                    rw [hv1] at q1 e1
                    rw [hv2] at q2 e2
                    rw [hv3] at q3 e3
                    have HV1 := Lib.hid hv1
                    have HE : Hid (v1 = false → v2 = true → v3 = false) := Lib.hid (by rintro rfl rfl; have := of_decide_eq_true e2.symm; subst this; rw [e3, ← e1])
                    clear hv1 hv2 hv3 e1 e2 e3
                    cases v1
                    · cases v2
                      · go_wp2
                        refine region_tail 35 (by kernel_rfl) (by kernel_rfl) ?_
                        simp only [List.take_succ_cons, List.take_zero, List.drop_succ_cons, List.drop_zero]
                        iterate 21
                          with_reducible refine wpStill_want ?_ (fun K hK => ?_)
                          · rfl
                          go_simp
                          refine hK _ ?_
                          clear hK K
                        iterate 8
                          with_reducible refine wpStill_skip ?_ ?_
                          · rfl
                          simp only [Act.put, List.setIfInBounds_toArray, List.set_cons_zero, List.set_cons_succ]
                        iterate 6
                          with_reducible refine wpStill_want ?_ (fun K hK => ?_)
                          · rfl
                          go_simp
                          refine hK _ ?_
                          clear hK K
                        refine wpStill_nil ?_
                        go_wp2
                        go_roundw
                        case measure => simp [intOf]; omega
                        case rel => exact ⟨b + 1, by omega, by omega, by go_num, (HKR.out.setCell (p := ⟨g, 1876 + a * 25 + b, none⟩) (Nat.le_of_eq HG.out) _).drew, HST.out _ HV1.out⟩
                      · obtain rfl : v3 = false := HE.out rfl rfl
                        go_wp2
                        refine region_tail 35 (by kernel_rfl) (by kernel_rfl) ?_
                        simp only [List.take_succ_cons, List.take_zero, List.drop_succ_cons, List.drop_zero]
                        iterate 35
                          with_reducible refine wpStill_want ?_ (fun K hK => ?_)
                          · rfl
                          go_simp
                          refine hK _ ?_
                          clear hK K
                        refine wpStill_nil ?_
                        go_wp2
                        go_roundw
                        case measure => simp [intOf]; omega
                        case rel => exact ⟨b + 1, by omega, by omega, by go_num, (HKR.out.setCell (p := ⟨g, 1876 + a * 25 + b, none⟩) (Nat.le_of_eq HG.out) _).drew, HST.out _ HV1.out⟩
                    · go_wp2
                      refine region_tail 35 (by kernel_rfl) (by kernel_rfl) ?_
                      simp only [List.take_succ_cons, List.take_zero, List.drop_succ_cons, List.drop_zero]
                      iterate 12
                        with_reducible refine wpStill_want ?_ (fun K hK => ?_)
                        · rfl
                        go_simp
                        refine hK _ ?_
                        clear hK K
                      iterate 18
                        with_reducible refine wpStill_skip ?_ ?_
                        · rfl
                        simp only [Act.put, List.setIfInBounds_toArray, List.set_cons_zero, List.set_cons_succ]
                      iterate 5
                        with_reducible refine wpStill_want ?_ (fun K hK => ?_)
                        · rfl
                        go_simp
                        refine hK _ ?_
                        clear hK K
                      refine wpStill_nil ?_
                      go_wp2
                      go_roundw
                      case measure => simp [intOf]; omega
                      case rel => exact ⟨b + 1, by omega, by omega, by go_num, (HKR.out.setCell (p := ⟨g, 1876 + a * 25 + b, none⟩) (Nat.le_of_eq HG.out) _).drew, HST.out _ HV1.out⟩
            case neg =>
              clear hk1 hk2
              go_wp2_with fail
              clear hkt
              have HAA : Hid (A4 c (fun _ _ => false) 1) := Lib.hid (A4.start HC.out)
              go_loopw [13] (fun av wr => ∃ (a : Nat) (st : Nat → Nat → Bool), 1 ≤ a ∧ a ≤ N + 1 ∧ av = .int .i64 a ∧ Kept w wr ∧ RBox wr g N ov re st ∧ A4 c st a) (fun av _ => N + 1 - (intOf av).toNat)
              case atStart => exact ⟨1, _, by omega, by omega, rfl, HKR.out, HBR.out, HAA.out⟩
              case round =>
                clear HKR HBR HAA
                obtain ⟨a, st, ha1, ha2, rfl, hkr, hbr, haa⟩ := hrel
                have HKR := Lib.hid hkr
                have HBR := Lib.hid hbr
                have HAA := Lib.hid haa
                clear hkr hbr haa
                by_cases hat : a ≤ N
                case pos =>
                  as_aux_lemma =>
                    go_wp2_with fail
                    go_loopw [14] (fun bv wr => ∃ (b : Nat) (st : Nat → Nat → Bool), 1 ≤ b ∧ b ≤ N + 1 ∧ bv = .int .i64 b ∧ Kept w wr ∧ RBox wr g N ov re st ∧ A4b c st a b) (fun bv _ => N + 1 - (intOf bv).toNat)
                    case atStart => exact ⟨1, _, by omega, by omega, rfl, HKR.out, HBR.out, HAA.out.row HC.out⟩
                    case round =>
                      clear HKR HBR HAA
                      obtain ⟨b, st, hb1, hb2, rfl, hkr, hbr, haa⟩ := hrel
                      have HKR := Lib.hid hkr
                      have HBR := Lib.hid hbr
                      have HAA := Lib.hid haa
                      clear hkr hbr haa
                      by_cases hbt : b ≤ N
                      case neg =>
                        go_wp2
                        go_roundw
                        case measure => simp [intOf]; omega
                        case rel => exact ⟨a + 1, _, by omega, by omega, by go_num, HKR.out, HBR.out, HAA.out.done HC.out (by omega)⟩
                      have hai : (a : Int) < 25 := by omega
                      have hbi : (b : Int) < 25 := by omega
                      have ha25 : a < 25 := by omega
                      have hb25 : b < 25 := by omega
                      have hgl := HBR.out.lt
                      have q1 := HBR.out.ov a b ha25 hb25
                      obtain ⟨o, ho⟩ : ∃ o, ov a b = o := ⟨_, rfl⟩
                      have hoe := (HOV.out a b).2
                      rw [ho] at q1 hoe
                      have HOE := Lib.hid hoe
                      clear ho hoe
                      by_cases hop : 0 < o
                      case neg =>
                        have hod : decide (0 < o) = false := decide_eq_false hop
                        go_wp2
                        go_roundw
                        case measure => simp [intOf]; omega
                        case rel => exact ⟨b + 1, _, by omega, by omega, by go_num, HKR.out, HBR.out, HAA.out.none (fun e => hop (HOE.out.2 e))⟩
                      have HED := Lib.hid (HOE.out.1 hop)
                      have hod : decide (0 < o) = true := decide_eq_true hop
                      clear hop
                      go_wp2_with fail
                      clear q1 hod
                      go_loopw [15] (fun pv wr => ∃ (p : Nat) (st : Nat → Nat → Bool), 1 ≤ p ∧ p ≤ N + 1 ∧ pv = .int .i64 p ∧ Kept w wr ∧ RBox wr g N ov re st ∧ A4d c st a b p 1) (fun pv _ => N + 1 - (intOf pv).toNat)
                      case atStart => exact ⟨1, _, by omega, by omega, rfl, HKR.out, HBR.out, HAA.out.cols ha1 hb1⟩
                      case round =>
                        clear HKR HBR HAA
                        obtain ⟨p, st, hp1, hp2, rfl, hkr, hbr, haa⟩ := hrel
                        have HKR := Lib.hid hkr
                        have HBR := Lib.hid hbr
                        have HAA := Lib.hid haa
                        clear hkr hbr haa
                        by_cases hpt : p ≤ N
                        case neg =>
                          go_wp2
                          go_roundw
                          case measure => simp [intOf]; omega
                          case rel => exact ⟨b + 1, _, by omega, by omega, by go_num, HKR.out, HBR.out, HAA.out.done (by omega)⟩
                        go_wp2_with fail
                        go_loopw [16] (fun qv wr => ∃ (q : Nat) (st : Nat → Nat → Bool), 1 ≤ q ∧ q ≤ N + 1 ∧ qv = .int .i64 q ∧ Kept w wr ∧ RBox wr g N ov re st ∧ A4d c st a b p q) (fun qv _ => N + 1 - (intOf qv).toNat)
                        case atStart => exact ⟨1, _, by omega, by omega, rfl, HKR.out, HBR.out, HAA.out⟩
                        case round =>
                          clear HKR HBR HAA
                          obtain ⟨q, st, hq1, hq2, rfl, hkr, hbr, haa⟩ := hrel
                          have HKR := Lib.hid hkr
                          have HBR := Lib.hid hbr
                          have HAA := Lib.hid haa
                          clear hkr hbr haa
                          by_cases hqt : q ≤ N
                          case neg =>
                            go_wp2
                            go_roundw
                            case measure => simp [intOf]; omega
                            case rel => exact ⟨p + 1, _, by omega, by omega, by go_num, HKR.out, HBR.out, HAA.out.row (by omega) hb1⟩
                          have hpi : (p : Int) < 25 := by omega
                          have hp25 : p < 25 := by omega
                          have hqi : (q : Int) < 25 := by omega
                          have hq25 : q < 25 := by omega
                          have hgl := HBR.out.lt
                          have hf := HBR.out.free (2501 + p * 25 + q)
                          have q1 := HBR.out.st p q hp25 hq25
                          have q2 := HBR.out.re p a hp25 ha25
                          have q3 := HBR.out.re b q hb25 hq25
                          have e2 := HRE.out p a hp1 hpt
                          have e3 := HRE.out b q hb1 hbt
                          obtain ⟨v1, hv1⟩ : ∃ v, st p q = v := ⟨_, rfl⟩
                          obtain ⟨v2, hv2⟩ : ∃ v, re p a = v := ⟨_, rfl⟩
                          obtain ⟨v3, hv3⟩ : ∃ v, re b q = v := ⟨_, rfl⟩
                          rw [hv1] at q1
                          rw [hv2] at q2 e2
                          rw [hv3] at q3 e3
                          have HNX : Hid (∀ v, v = (v1 || (v2 && v3)) → A4d c (upd2 st p q v) a b p (q + 1)) := Lib.hid fun v hv => HAA.out.next HED.out (by rw [hv, hv1, e2, e3])
                          clear hv1 hv2 hv3 e2 e3
                          cases v1
                          · cases v2
                            · go_wp2
                              refine region_tail 35 (by kernel_rfl) (by kernel_rfl) ?_
                              simp only [List.take_succ_cons, List.take_zero, List.drop_succ_cons, List.drop_zero]
                              iterate 21
                                with_reducible refine wpStill_want ?_ (fun K hK => ?_)
                                · rfl
                                go_simp
                                refine hK _ ?_
                                clear hK K
                              iterate 8
                                with_reducible refine wpStill_skip ?_ ?_
                                · rfl
                                simp only [Act.put, List.setIfInBounds_toArray, List.set_cons_zero, List.set_cons_succ]
                              iterate 6
                                with_reducible refine wpStill_want ?_ (fun K hK => ?_)
                                · rfl
                                go_simp
                                refine hK _ ?_
                                clear hK K
                              refine wpStill_nil ?_
                              go_wp2
                              go_roundw
                              case measure => simp [intOf]; omega
                              case rel => exact ⟨q + 1, _, by omega, by omega, by go_num, (HKR.out.setCell (p := ⟨g, 2501 + p * 25 + q, none⟩) (Nat.le_of_eq HG.out) _).drew, (HBR.out.setSt hp25 hq25 false).kept (Kept.refl _).drew, HNX.out _ (rfl)⟩
                            · go_wp2
                              refine region_tail 35 (by kernel_rfl) (by kernel_rfl) ?_
                              simp only [List.take_succ_cons, List.take_zero, List.drop_succ_cons, List.drop_zero]
                              iterate 35
                                with_reducible refine wpStill_want ?_ (fun K hK => ?_)
                                · rfl
                                go_simp
                                refine hK _ ?_
                                clear hK K
                              refine wpStill_nil ?_
                              go_wp2
                              go_roundw
                              case measure => simp [intOf]; omega
                              case rel => exact ⟨q + 1, _, by omega, by omega, by go_num, (HKR.out.setCell (p := ⟨g, 2501 + p * 25 + q, none⟩) (Nat.le_of_eq HG.out) _).drew, (HBR.out.setSt hp25 hq25 v3).kept (Kept.refl _).drew, HNX.out _ (by simp)⟩
                          · go_wp2
                            refine region_tail 35 (by kernel_rfl) (by kernel_rfl) ?_
                            simp only [List.take_succ_cons, List.take_zero, List.drop_succ_cons, List.drop_zero]
                            iterate 12
                              with_reducible refine wpStill_want ?_ (fun K hK => ?_)
                              · rfl
                              go_simp
                              refine hK _ ?_
                              clear hK K
                            iterate 18
                              with_reducible refine wpStill_skip ?_ ?_
                              · rfl
                              simp only [Act.put, List.setIfInBounds_toArray, List.set_cons_zero, List.set_cons_succ]
                            iterate 5
                              with_reducible refine wpStill_want ?_ (fun K hK => ?_)
                              · rfl
                              go_simp
                              refine hK _ ?_
                              clear hK K
                            refine wpStill_nil ?_
                            go_wp2
                            go_roundw
                            case measure => simp [intOf]; omega
                            case rel => exact ⟨q + 1, _, by omega, by omega, by go_num, (HKR.out.setCell (p := ⟨g, 2501 + p * 25 + q, none⟩) (Nat.le_of_eq HG.out) _).drew, (HBR.out.setSt hp25 hq25 true).kept (Kept.refl _).drew, HNX.out _ (by simp)⟩
                case neg =>
                  have HST := Lib.hid (HAA.out.all HC.out (by omega))
                  clear HAA ha1 ha2
                  go_wp2_with fail
                  clear hat
                  have HAA : Hid (A5 c st 1) := Lib.hid (A5.start HC.out HST.out)
                  clear HST
                  go_loopw [17] (fun kv wr => ∃ (k : Nat) (st : Nat → Nat → Bool), 1 ≤ k ∧ k ≤ N + 1 ∧ kv = .int .i64 k ∧ Kept w wr ∧ RBox wr g N ov re st ∧ A5 c st k) (fun kv _ => N + 1 - (intOf kv).toNat)
                  case atStart => exact ⟨1, _, by omega, by omega, rfl, HKR.out, HBR.out, HAA.out⟩
                  case round =>
                    clear HKR HBR HAA
                    obtain ⟨k, st, hk1, hk2, rfl, hkr, hbr, haa⟩ := hrel
                    have HKR := Lib.hid hkr
                    have HBR := Lib.hid hbr
                    have HAA := Lib.hid haa
                    clear hkr hbr haa
                    by_cases hkt : k ≤ N
                    case neg =>
                      have HWO := Lib.hid (HAA.out.all HC.out (by omega) HRE.out)
                      clear HAA hk1 hk2
                      go_wp2
                      go_ret
                      exact ⟨g, ov, re, st, rfl, HBR.out, Nat.le_of_eq HG.out, HKR.out, HWO.out⟩
                    go_wp2_with fail
                    go_loopw [18] (fun av wr => ∃ (a : Nat) (st : Nat → Nat → Bool), 1 ≤ a ∧ a ≤ N + 1 ∧ av = .int .i64 a ∧ Kept w wr ∧ RBox wr g N ov re st ∧ A5a c st k a) (fun av _ => N + 1 - (intOf av).toNat)
                    case atStart => exact ⟨1, _, by omega, by omega, rfl, HKR.out, HBR.out, HAA.out.row HC.out⟩
                    case round =>
                      clear HKR HBR HAA
                      obtain ⟨a, st, ha1, ha2, rfl, hkr, hbr, haa⟩ := hrel
                      have HKR := Lib.hid hkr
                      have HBR := Lib.hid hbr
                      have HAA := Lib.hid haa
                      clear hkr hbr haa
                      by_cases hat : a ≤ N
                      case neg =>
                        go_wp2
                        go_roundw
                        case measure => simp [intOf]; omega
                        case rel => exact ⟨k + 1, _, by omega, by omega, by go_num, HKR.out, HBR.out, HAA.out.done HC.out (by omega)⟩
                      go_wp2_with fail
                      go_loopw [19] (fun bv wr => ∃ (b : Nat) (st : Nat → Nat → Bool), 1 ≤ b ∧ b ≤ N + 1 ∧ bv = .int .i64 b ∧ Kept w wr ∧ RBox wr g N ov re st ∧ A5b c st k a b) (fun bv _ => N + 1 - (intOf bv).toNat)
                      case atStart => exact ⟨1, _, by omega, by omega, rfl, HKR.out, HBR.out, HAA.out.row HC.out⟩
                      case round =>
                        clear HKR HBR HAA
                        obtain ⟨b, st, hb1, hb2, rfl, hkr, hbr, haa⟩ := hrel
                        have HKR := Lib.hid hkr
                        have HBR := Lib.hid hbr
                        have HAA := Lib.hid haa
                        clear hkr hbr haa
                        by_cases hbt : b ≤ N
                        case neg =>
                          go_wp2
                          go_roundw
                          case measure => simp [intOf]; omega
                          case rel => exact ⟨a + 1, _, by omega, by omega, by go_num, HKR.out, HBR.out, HAA.out.done HC.out (by omega)⟩
                        have hki : (k : Int) < 25 := by omega
                        have hk25 : k < 25 := by omega
                        have hai : (a : Int) < 25 := by omega
                        have ha25 : a < 25 := by omega
                        have hbi : (b : Int) < 25 := by omega
                        have hb25 : b < 25 := by omega
                        have hgl := HBR.out.lt
                        have hf := HBR.out.free (2501 + a * 25 + b)
                        have q1 := HBR.out.st a b ha25 hb25
                        have q2 := HBR.out.st a k ha25 hk25
                        have q3 := HBR.out.st k b hk25 hb25
                        obtain ⟨v1, hv1⟩ : ∃ v, st a b = v := ⟨_, rfl⟩
                        obtain ⟨v2, hv2⟩ : ∃ v, st a k = v := ⟨_, rfl⟩
                        obtain ⟨v3, hv3⟩ : ∃ v, st k b = v := ⟨_, rfl⟩
                        rw [hv1] at q1
                        rw [hv2] at q2
                        rw [hv3] at q3
                        have HNX : Hid (∀ v, v = (v1 || (v2 && v3)) → A5b c (upd2 st a b v) k a (b + 1)) := Lib.hid fun v hv => HAA.out.next (by rw [hv, hv1, hv2, hv3])
                        clear hv1 hv2 hv3
                        cases v1
                        · cases v2
                          · go_wp2
                            refine region_tail 35 (by kernel_rfl) (by kernel_rfl) ?_
                            simp only [List.take_succ_cons, List.take_zero, List.drop_succ_cons, List.drop_zero]
                            iterate 21
                              with_reducible refine wpStill_want ?_ (fun K hK => ?_)
                              · rfl
                              go_simp
                              refine hK _ ?_
                              clear hK K
                            iterate 8
                              with_reducible refine wpStill_skip ?_ ?_
                              · rfl
                              simp only [Act.put, List.setIfInBounds_toArray, List.set_cons_zero, List.set_cons_succ]
                            iterate 6
                              with_reducible refine wpStill_want ?_ (fun K hK => ?_)
                              · rfl
                              go_simp
                              refine hK _ ?_
                              clear hK K
                            refine wpStill_nil ?_
                            go_wp2
                            go_roundw
                            case measure => simp [intOf]; omega
                            case rel => exact ⟨b + 1, _, by omega, by omega, by go_num, (HKR.out.setCell (p := ⟨g, 2501 + a * 25 + b, none⟩) (Nat.le_of_eq HG.out) _).drew, (HBR.out.setSt ha25 hb25 false).kept (Kept.refl _).drew, HNX.out _ (rfl)⟩
                          · go_wp2
                            refine region_tail 35 (by kernel_rfl) (by kernel_rfl) ?_
                            simp only [List.take_succ_cons, List.take_zero, List.drop_succ_cons, List.drop_zero]
                            iterate 35
                              with_reducible refine wpStill_want ?_ (fun K hK => ?_)
                              · rfl
                              go_simp
                              refine hK _ ?_
                              clear hK K
                            refine wpStill_nil ?_
                            go_wp2
                            go_roundw
                            case measure => simp [intOf]; omega
                            case rel => exact ⟨b + 1, _, by omega, by omega, by go_num, (HKR.out.setCell (p := ⟨g, 2501 + a * 25 + b, none⟩) (Nat.le_of_eq HG.out) _).drew, (HBR.out.setSt ha25 hb25 v3).kept (Kept.refl _).drew, HNX.out _ (by simp)⟩
                        · go_wp2
                          refine region_tail 35 (by kernel_rfl) (by kernel_rfl) ?_
                          simp only [List.take_succ_cons, List.take_zero, List.drop_succ_cons, List.drop_zero]
                          iterate 12
                            with_reducible refine wpStill_want ?_ (fun K hK => ?_)
                            · rfl
                            go_simp
                            refine hK _ ?_
                            clear hK K
                          iterate 18
                            with_reducible refine wpStill_skip ?_ ?_
                            · rfl
                            simp only [Act.put, List.setIfInBounds_toArray, List.set_cons_zero, List.set_cons_succ]
                          iterate 5
                            with_reducible refine wpStill_want ?_ (fun K hK => ?_)
                            · rfl
                            go_simp
                            refine hK _ ?_
                            clear hK K
                          refine wpStill_nil ?_
                          go_wp2
                          go_roundw
                          case measure => simp [intOf]; omega
                          case rel => exact ⟨b + 1, _, by omega, by omega, by go_num, (HKR.out.setCell (p := ⟨g, 2501 + a * 25 + b, none⟩) (Nat.le_of_eq HG.out) _).drew, (HBR.out.setSt ha25 hb25 true).kept (Kept.refl _).drew, HNX.out _ (by simp)⟩
end Go.Proofs.Ytgmodcipbklejaa
