/- Points and segments of the plane: the cross product, how two segments meet, and what pieces that meet at ends alone do. -/
/-! Points and segments of the plane: the cross product, how two segments meet, and what pieces that meet at ends alone do. -/
namespace Go.Proofs.YtlglfcdobbocnaaGreat

abbrev Pt := Int × Int
abbrev Sg := Pt × Pt
/-- The cross product of the ways from a to b and from a to c. -/
def cr (a b c : Pt) : Int := (b.1 - a.1) * (c.2 - a.2) - (b.2 - a.2) * (c.1 - a.1)
/-- Before, by X and then by Y. -/
def ltP (a b : Pt) : Prop := a.1 < b.1 ∨ a.1 = b.1 ∧ a.2 < b.2
instance (a b : Pt) : Decidable (ltP a b) := by unfold ltP; infer_instance
/-- Both on one strict side of zero. -/
def Same (x y : Int) : Prop := 0 < x ∧ 0 < y ∨ x < 0 ∧ y < 0
instance (x y : Int) : Decidable (Same x y) := by unfold Same; infer_instance
def endsF (s : Sg) : Sg := if ltP s.2 s.1 then (s.2, s.1) else s
/-- A point is on a segment. -/
def OnS (p : Pt) (s : Sg) : Prop := cr s.1 s.2 p = 0 ∧ ¬ ltP p (endsF s).1 ∧ ¬ ltP (endsF s).2 p
instance (p : Pt) (s : Sg) : Decidable (OnS p s) := by unfold OnS; infer_instance
def lowP (s t : Sg) : Pt := if ltP (endsF s).1 (endsF t).1 then (endsF t).1 else (endsF s).1
def highP (s t : Sg) : Pt := if ltP (endsF t).2 (endsF s).2 then (endsF t).2 else (endsF s).2
/-- How two segments meet: 0 not, 1 at ends, 2 touch, 3 cross, 4 overlap. -/
def meetF (s t : Sg) : Int :=
  if cr s.1 s.2 t.1 = 0 ∧ cr s.1 s.2 t.2 = 0 then (if ltP (lowP s t) (highP s t) then 4 else if lowP s t = highP s t then 1 else 0)
  else if Same (cr s.1 s.2 t.1) (cr s.1 s.2 t.2) ∨ Same (cr t.1 t.2 s.1) (cr t.1 t.2 s.2) then 0
  else if (cr t.1 t.2 s.1 = 0 ∨ cr t.1 t.2 s.2 = 0) ∧ (cr s.1 s.2 t.1 = 0 ∨ cr s.1 s.2 t.2 = 0) then 1
  else if (cr t.1 t.2 s.1 = 0 ∨ cr t.1 t.2 s.2 = 0) ∨ (cr s.1 s.2 t.1 = 0 ∨ cr s.1 s.2 t.2 = 0) then 2
  else 3

theorem ltP_irrefl (a : Pt) : ¬ ltP a a := by unfold ltP; omega
theorem ltP_trans {a b c : Pt} (h : ltP a b) (h2 : ltP b c) : ltP a c := by unfold ltP at *; omega
theorem ltP_asymm {a b : Pt} (h : ltP a b) : ¬ ltP b a := by unfold ltP at *; omega
theorem ltP_total {a b : Pt} (h : a ≠ b) : ltP a b ∨ ltP b a := by
  have : ¬ (a.1 = b.1 ∧ a.2 = b.2) := fun e => h (Prod.ext e.1 e.2)
  unfold ltP
  omega
theorem ltP_le {a b : Pt} : ¬ ltP b a ↔ ltP a b ∨ a = b := by
  constructor
  · intro h
    by_cases e : a = b
    · exact .inr e
    · exact .inl ((ltP_total e).resolve_right h)
  · rintro (h | rfl)
    · exact ltP_asymm h
    · exact ltP_irrefl _
theorem ends_lt {s : Sg} (h : ltP s.1 s.2) : endsF s = s := by unfold endsF; rw [if_neg (ltP_asymm h)]
theorem pt_ne {a b : Pt} (h : a.1 ≠ b.1) : a ≠ b := fun e => h (by rw [e])

/-- The fact of the products of two numbers. -/
theorem pos2 {a b : Int} (h : 0 < a) (h2 : 0 < b) : 0 < a * b := Int.mul_pos h h2
theorem mulp {a x : Int} (h : 0 < a) : (0 < a * x ↔ 0 < x) ∧ (a * x < 0 ↔ x < 0) ∧ (a * x = 0 ↔ x = 0) := by
  rcases Int.lt_trichotomy x 0 with g | g | g
  · have := Int.mul_pos h (show 0 < -x by omega)
    rw [Int.mul_neg] at this
    exact ⟨by omega, by omega, by omega⟩
  · subst g
    simp
  · have := Int.mul_pos h g
    exact ⟨by omega, by omega, by omega⟩
theorem cr_id (a b c d : Pt) : cr a b c - cr a b d = cr c d b - cr c d a := by unfold cr; grind

/-- How far another segment is above this one at an x, by the product of both widths. -/
def gap (e f : Sg) (x : Int) : Int := (f.1.2 * (f.2.1 - f.1.1) + (f.2.2 - f.1.2) * (x - f.1.1)) * (e.2.1 - e.1.1) - (e.1.2 * (e.2.1 - e.1.1) + (e.2.2 - e.1.2) * (x - e.1.1)) * (f.2.1 - f.1.1)
def slope (e f : Sg) : Int := (f.2.2 - f.1.2) * (e.2.1 - e.1.1) - (e.2.2 - e.1.2) * (f.2.1 - f.1.1)
theorem gap_step (e f : Sg) (x y : Int) : gap e f y = gap e f x + slope e f * (y - x) := by unfold gap slope; grind
theorem gap_neg (e f : Sg) (x : Int) : gap f e x = - gap e f x := by unfold gap; grind
theorem gap_c (e f : Sg) : gap e f f.1.1 = (f.2.1 - f.1.1) * cr e.1 e.2 f.1 := by unfold gap cr; grind
theorem gap_d (e f : Sg) : gap e f f.2.1 = (f.2.1 - f.1.1) * cr e.1 e.2 f.2 := by unfold gap cr; grind
theorem gap_a (e f : Sg) : gap e f e.1.1 = - ((e.2.1 - e.1.1) * cr f.1 f.2 e.1) := by unfold gap cr; grind
theorem gap_b (e f : Sg) : gap e f e.2.1 = - ((e.2.1 - e.1.1) * cr f.1 f.2 e.2) := by unfold gap cr; grind

/-- Both segments lie over the columns from x to y. -/
def Over (e f : Sg) (x y : Int) : Prop := e.1.1 ≤ x ∧ y ≤ e.2.1 ∧ f.1.1 ≤ x ∧ y ≤ f.2.1
/-- Pieces that meet at ends alone, or not. -/
def Apart (e f : Sg) : Prop := meetF e f = 0 ∨ meetF e f = 1 ∨ (max e.1.1 e.2.1 < min f.1.1 f.2.1 ∨ max f.1.1 f.2.1 < min e.1.1 e.2.1) ∨ (max e.1.2 e.2.2 < min f.1.2 f.2.2 ∨ max f.1.2 f.2.2 < min e.1.2 e.2.2)

/-- Segments that do not cross or overlap. -/
def ApartW (e f : Sg) : Prop := (meetF e f ≠ 3 ∧ meetF e f ≠ 4) ∨ (max e.1.1 e.2.1 < min f.1.1 f.2.1 ∨ max f.1.1 f.2.1 < min e.1.1 e.2.1) ∨ (max e.1.2 e.2.2 < min f.1.2 f.2.2 ∨ max f.1.2 f.2.2 < min e.1.2 e.2.2)
theorem Apart.weak {e f : Sg} (h : Apart e f) : ApartW e f := by
  rcases h with h | h | h
  · exact .inl (by omega)
  · exact .inl (by omega)
  · exact .inr h
/-- Two that change sides cross. -/
theorem cross_of {e f : Sg} {x y : Int} (ho : Over e f x y) (hxy : x < y) (h1 : gap e f x < 0) (h2 : 0 < gap e f y) : cr e.1 e.2 f.1 < 0 ∧ 0 < cr e.1 e.2 f.2 ∧ 0 < cr f.1 f.2 e.1 ∧ cr f.1 f.2 e.2 < 0 := by
  obtain ⟨o1, o2, o3, o4⟩ := ho
  have hs : 0 < slope e f := by
    have e1 := gap_step e f x y
    have : 0 < (y - x) * slope e f := by rw [Int.mul_comm]; omega
    exact (mulp (by omega)).1.1 this
  have up : ∀ u v, u ≤ v → gap e f u ≤ gap e f v := by
    intro u v huv
    have e1 := gap_step e f u v
    have := Int.mul_nonneg (Int.le_of_lt hs) (show 0 ≤ v - u by omega)
    omega
  have we : 0 < e.2.1 - e.1.1 := by omega
  have wf : 0 < f.2.1 - f.1.1 := by omega
  have a1 := up _ _ o1
  have a2 := up _ _ o2
  have a3 := up _ _ o3
  have a4 := up _ _ o4
  rw [gap_a] at a1
  rw [gap_b] at a2
  rw [gap_c] at a3
  rw [gap_d] at a4
  exact ⟨(mulp wf).2.1.1 (by omega), (mulp wf).1.1 (by omega), (mulp we).1.1 (by omega), (mulp we).2.1.1 (by omega)⟩
theorem gap_sum (e f : Sg) (x : Int) : gap e f x = (f.1.2 * (f.2.1 - x) + f.2.2 * (x - f.1.1)) * (e.2.1 - e.1.1) - (e.1.2 * (e.2.1 - x) + e.2.2 * (x - e.1.1)) * (f.2.1 - f.1.1) := by unfold gap; grind
theorem mix_ge {a b m p q : Int} (ha : m ≤ a) (hb : m ≤ b) (hp : 0 ≤ p) (hq : 0 ≤ q) : m * (p + q) ≤ a * p + b * q := by
  have h1 := Int.mul_le_mul_of_nonneg_right ha hp
  have h2 := Int.mul_le_mul_of_nonneg_right hb hq
  rw [Int.mul_add]
  omega
theorem mix_le {a b m p q : Int} (ha : a ≤ m) (hb : b ≤ m) (hp : 0 ≤ p) (hq : 0 ≤ q) : a * p + b * q ≤ m * (p + q) := by
  have h1 := Int.mul_le_mul_of_nonneg_right ha hp
  have h2 := Int.mul_le_mul_of_nonneg_right hb hq
  rw [Int.mul_add]
  omega
/-- What lies above in its Ys lies above. -/
theorem far_gap {e f : Sg} {x y : Int} (ho : Over e f x y) (hxy : x < y) (h : max e.1.2 e.2.2 < min f.1.2 f.2.2) (z : Int) (h1 : x ≤ z) (h2 : z ≤ y) : 0 < gap e f z := by
  obtain ⟨o1, o2, o3, o4⟩ := ho
  rw [gap_sum]
  have a1 := mix_ge (m := min f.1.2 f.2.2) (a := f.1.2) (b := f.2.2) (p := f.2.1 - z) (q := z - f.1.1) (by omega) (by omega) (by omega) (by omega)
  have a2 := mix_le (m := max e.1.2 e.2.2) (a := e.1.2) (b := e.2.2) (p := e.2.1 - z) (q := z - e.1.1) (by omega) (by omega) (by omega) (by omega)
  generalize f.1.2 * (f.2.1 - z) + f.2.2 * (z - f.1.1) = F at *
  generalize e.1.2 * (e.2.1 - z) + e.2.2 * (z - e.1.1) = E at *
  generalize min f.1.2 f.2.2 = m at *
  generalize max e.1.2 e.2.2 = n at *
  have we : 0 < e.2.1 - e.1.1 := by omega
  have wf : 0 < f.2.1 - f.1.1 := by omega
  rw [show f.2.1 - z + (z - f.1.1) = f.2.1 - f.1.1 by omega] at a1
  rw [show e.2.1 - z + (z - e.1.1) = e.2.1 - e.1.1 by omega] at a2
  generalize e.2.1 - e.1.1 = p at *
  generalize f.2.1 - f.1.1 = q at *
  have b1 := Int.mul_le_mul_of_nonneg_right a1 (Int.le_of_lt we)
  have b2 := Int.mul_le_mul_of_nonneg_right a2 (Int.le_of_lt wf)
  have b3 := Int.mul_pos (Int.mul_pos (show 0 < m - n by omega) wf) we
  grind
theorem n1_w {e f : Sg} {x y : Int} (hp : ApartW e f) (ho : Over e f x y) (hxy : x < y) : ¬ (gap e f x < 0 ∧ 0 < gap e f y) ∧ ¬ (0 < gap e f x ∧ gap e f y < 0) ∧ ¬ (gap e f x = 0 ∧ gap e f y = 0) := by
  have ho' : Over f e x y := ⟨ho.2.2.1, ho.2.2.2, ho.1, ho.2.1⟩
  have hm : ∀ {A B C D : Int}, (A < 0 ∧ 0 < B ∨ 0 < A ∧ B < 0) → (C < 0 ∧ 0 < D ∨ 0 < C ∧ D < 0) → cr e.1 e.2 f.1 = A → cr e.1 e.2 f.2 = B → cr f.1 f.2 e.1 = C → cr f.1 f.2 e.2 = D → meetF e f = 3 := by
    intro A B C D h1 h2 e1 e2 e3 e4
    unfold meetF Same
    rw [e1, e2, e3, e4, if_neg (by omega), if_neg (by omega), if_neg (by omega), if_neg (by omega)]
  have key : ∀ z, x ≤ z → z ≤ y → (max e.1.2 e.2.2 < min f.1.2 f.2.2 → 0 < gap e f z) ∧ (max f.1.2 f.2.2 < min e.1.2 e.2.2 → gap e f z < 0) := fun z h1 h2 => ⟨fun h => far_gap ho hxy h z h1 h2, fun h => by
    have := far_gap ho' hxy h z h1 h2
    rw [gap_neg] at this
    omega⟩
  have kx := key x (by omega) (by omega)
  have ky := key y (by omega) (by omega)
  have hfx : ¬ (max e.1.1 e.2.1 < min f.1.1 f.2.1 ∨ max f.1.1 f.2.1 < min e.1.1 e.2.1) := by
    obtain ⟨o1, o2, o3, o4⟩ := ho
    omega
  refine ⟨fun ⟨h1, h2⟩ => ?_, fun ⟨h1, h2⟩ => ?_, fun ⟨h1, h2⟩ => ?_⟩
  · obtain ⟨s1, s2, s3, s4⟩ := cross_of ho hxy h1 h2
    have := hm (.inl ⟨s1, s2⟩) (.inr ⟨s3, s4⟩) rfl rfl rfl rfl
    rcases hp with hp | hp | hp | hp
    · omega
    · exact hfx hp
    · have := kx.1 hp; omega
    · have := ky.2 hp; omega
  · obtain ⟨s1, s2, s3, s4⟩ := cross_of ho' hxy (by rw [gap_neg]; omega) (by rw [gap_neg]; omega)
    have := hm (.inr ⟨s3, s4⟩) (.inl ⟨s1, s2⟩) rfl rfl rfl rfl
    rcases hp with hp | hp | hp | hp
    · omega
    · exact hfx hp
    · have := ky.1 hp; omega
    · have := kx.2 hp; omega
  · have hs : slope e f = 0 := by
      have e1 := gap_step e f x y
      have : (y - x) * slope e f = 0 := by rw [Int.mul_comm]; omega
      exact (mulp (by omega)).2.2.1 this
    have all : ∀ z, gap e f z = 0 := fun z => by rw [gap_step e f x z, hs, h1]; simp
    obtain ⟨o1, o2, o3, o4⟩ := ho
    have z1 := all f.1.1
    have z2 := all f.2.1
    rw [gap_c] at z1
    rw [gap_d] at z2
    have z1 := (mulp (by omega)).2.2.1 z1
    have z2 := (mulp (by omega)).2.2.1 z2
    have le : ltP e.1 e.2 := by unfold ltP; omega
    have lf : ltP f.1 f.2 := by unfold ltP; omega
    have h4 : meetF e f = 4 := by
      unfold meetF
      rw [if_pos ⟨z1, z2⟩, if_pos]
      unfold lowP highP
      rw [ends_lt le, ends_lt lf]
      split <;> split <;> (unfold ltP at *; omega)
    rcases hp with hp | hp | hp | hp
    · omega
    · exact hfx hp
    · have := kx.1 hp; omega
    · have := kx.2 hp; omega
theorem n1_up {e f : Sg} {x y : Int} (hp : Apart e f) (ho : Over e f x y) (hxy : x < y) : ¬ (gap e f x < 0 ∧ 0 < gap e f y) ∧ ¬ (0 < gap e f x ∧ gap e f y < 0) ∧ ¬ (gap e f x = 0 ∧ gap e f y = 0) := n1_w hp.weak ho hxy
/-- A point strictly between two others, by weights. -/
def Mid (a z b : Pt) (p q : Int) : Prop := 0 < p ∧ 0 < q ∧ p * (a.1 - z.1) + q * (b.1 - z.1) = 0 ∧ p * (a.2 - z.2) + q * (b.2 - z.2) = 0
theorem mid_of {a b z : Pt} (h0 : cr a b z = 0) (h1 : ltP a z) (h2 : ltP z b) : ∃ p q, Mid a z b p q := by
  unfold cr at h0
  unfold ltP at h1 h2
  by_cases h : a.1 < b.1
  · have g1 : a.1 < z.1 := by
      rcases h1 with h1 | ⟨e, h1⟩
      · exact h1
      · rw [e, Int.sub_self, Int.mul_zero, Int.sub_zero] at h0
        have := Int.mul_pos (show 0 < b.1 - z.1 by omega) (show 0 < z.2 - a.2 by omega)
        omega
    have g2 : z.1 < b.1 := by
      rcases h2 with h2 | ⟨e, h2⟩
      · exact h2
      · have := Int.mul_pos (show 0 < b.1 - a.1 by omega) (show 0 < b.2 - z.2 by omega)
        rw [e] at h0
        grind
    exact ⟨b.1 - z.1, z.1 - a.1, by omega, by omega, by grind, by grind⟩
  · exact ⟨b.2 - z.2, z.2 - a.2, by omega, by omega, by
      rw [show a.1 - z.1 = 0 by omega, show b.1 - z.1 = 0 by omega]; simp, by grind⟩
theorem Mid.cr {a z b : Pt} {p q : Int} (h : Mid a z b p q) (u v : Pt) : p * cr u v a + q * cr u v b = (p + q) * cr u v z := by
  obtain ⟨-, -, h1, h2⟩ := h
  unfold YtlglfcdobbocnaaGreat.cr
  grind
/-- A mean lies between. -/
theorem mean_mm {a z b p q : Int} (hp : 0 < p) (hq : 0 < q) (h : p * (a - z) + q * (b - z) = 0) : min a b ≤ z ∧ z ≤ max a b := by
  constructor
  · apply Int.not_lt.1
    intro g
    have := Int.mul_pos hp (show 0 < a - z by omega)
    have := Int.mul_pos hq (show 0 < b - z by omega)
    omega
  · apply Int.not_lt.1
    intro g
    have := Int.mul_pos hp (show 0 < z - a by omega)
    have := Int.mul_pos hq (show 0 < z - b by omega)
    rw [show a - z = -(z - a) by omega, show b - z = -(z - b) by omega, Int.mul_neg, Int.mul_neg] at h
    omega
theorem opp_of {p q C D : Int} (hp : 0 < p) (hq : 0 < q) (h : p * C + q * D = 0) (hn : C ≠ D) : C < 0 ∧ 0 < D ∨ 0 < C ∧ D < 0 := by
  rcases Int.lt_trichotomy C 0 with g | g | g
  · have := (mulp (x := C) hp).2.1.2 g
    exact .inl ⟨g, (mulp hq).1.1 (by omega)⟩
  · subst g
    rw [Int.mul_zero, Int.zero_add] at h
    have := (mulp hq).2.2.1 h
    omega
  · have := (mulp (x := C) hp).1.2 g
    exact .inr ⟨g, (mulp hq).2.1.1 (by omega)⟩
/-- An end of another piece that lies on this one is an end of it. -/
theorem n2_aux {e f : Sg} {z o : Pt} (hp : Apart e f) (le : ltP e.1 e.2) (lf : ltP f.1 f.2) (hz : z = f.1 ∧ o = f.2 ∨ z = f.2 ∧ o = f.1) (h0 : cr e.1 e.2 z = 0) (h1 : ltP e.1 z) (h2 : ltP z e.2) : False := by
  obtain ⟨p, q, hm⟩ := mid_of h0 h1 h2
  have mx := mean_mm hm.1 hm.2.1 hm.2.2.1
  have my := mean_mm hm.1 hm.2.1 hm.2.2.2
  have hzx : min f.1.1 f.2.1 ≤ z.1 ∧ z.1 ≤ max f.1.1 f.2.1 ∧ min f.1.2 f.2.2 ≤ z.2 ∧ z.2 ≤ max f.1.2 f.2.2 := by rcases hz with ⟨rfl, -⟩ | ⟨rfl, -⟩ <;> omega
  have hfar : meetF e f = 0 ∨ meetF e f = 1 := by
    rcases hp with hp | hp | hp | hp
    · exact .inl hp
    · exact .inr hp
    · omega
    · omega
  have hzz : cr f.1 f.2 z = 0 := by rcases hz with ⟨rfl, -⟩ | ⟨rfl, -⟩ <;> (unfold YtlglfcdobbocnaaGreat.cr; grind)
  by_cases ho : cr e.1 e.2 o = 0
  · have h4 : meetF e f = 4 := by
      unfold meetF
      rw [if_pos (by rcases hz with ⟨rfl, rfl⟩ | ⟨rfl, rfl⟩ <;> exact ⟨by assumption, by assumption⟩), if_pos]
      unfold lowP highP
      rw [ends_lt le, ends_lt lf]
      rcases hz with ⟨rfl, rfl⟩ | ⟨rfl, rfl⟩
      · rw [if_pos h1]
        split
        · exact lf
        · exact h2
      · rw [if_pos h2]
        split
        · exact lf
        · exact h1
    omega
  · have hc := hm.cr f.1 f.2
    rw [hzz, Int.mul_zero] at hc
    have hd := cr_id e.1 e.2 f.1 f.2
    have hn : cr f.1 f.2 e.1 ≠ cr f.1 f.2 e.2 := by
      rcases hz with ⟨rfl, rfl⟩ | ⟨rfl, rfl⟩ <;> omega
    have hop := opp_of hm.1 hm.2.1 hc hn
    have h2' : meetF e f = 2 := by
      unfold meetF Same
      rcases hz with ⟨rfl, rfl⟩ | ⟨rfl, rfl⟩
      · rw [if_neg (by omega), if_neg (by omega), if_neg (by omega), if_pos (by omega)]
      · rw [if_neg (by omega), if_neg (by omega), if_neg (by omega), if_pos (by omega)]
    omega
theorem cr_mix (a b z : Pt) : cr a b z = (b.1 - z.1) * (z.2 - a.2) + (z.1 - a.1) * (z.2 - b.2) := by unfold cr; grind
theorem above_of {a b z : Pt} (h1 : a.1 < z.1) (h2 : z.1 < b.1) (h : max a.2 b.2 < z.2) : 0 < cr a b z := by
  rw [cr_mix]
  have := Int.mul_pos (show 0 < b.1 - z.1 by omega) (show 0 < z.2 - a.2 by omega)
  have := Int.mul_pos (show 0 < z.1 - a.1 by omega) (show 0 < z.2 - b.2 by omega)
  omega
theorem below_of {a b z : Pt} (h1 : a.1 < z.1) (h2 : z.1 < b.1) (h : z.2 < min a.2 b.2) : cr a b z < 0 := by
  have e : cr a b z = - ((b.1 - z.1) * (a.2 - z.2) + (z.1 - a.1) * (b.2 - z.2)) := by unfold cr; grind
  rw [e]
  have := Int.mul_pos (show 0 < b.1 - z.1 by omega) (show 0 < a.2 - z.2 by omega)
  have := Int.mul_pos (show 0 < z.1 - a.1 by omega) (show 0 < b.2 - z.2 by omega)
  omega
/-- A vertical piece in the inner columns of another one lies on one side. -/
theorem n3_w {e f : Sg} (hp : ApartW e f) (lf : ltP f.1 f.2) (hv : f.1.1 = f.2.1) (h1 : e.1.1 < f.1.1) (h2 : f.1.1 < e.2.1) (hA : cr e.1 e.2 f.1 ≠ 0) (hB : cr e.1 e.2 f.2 ≠ 0) : Same (cr e.1 e.2 f.1) (cr e.1 e.2 f.2) := by
  have hy : f.1.2 < f.2.2 := by unfold ltP at lf; omega
  have hAB : cr e.1 e.2 f.2 - cr e.1 e.2 f.1 = (e.2.1 - e.1.1) * (f.2.2 - f.1.2) := by unfold cr; rw [hv]; grind
  have hpos := Int.mul_pos (show 0 < e.2.1 - e.1.1 by omega) (show 0 < f.2.2 - f.1.2 by omega)
  apply Decidable.byContradiction
  intro hs
  unfold Same at hs
  have hC : cr f.1 f.2 e.1 = (f.2.2 - f.1.2) * (f.1.1 - e.1.1) := by unfold cr; rw [← hv]; grind
  have hD : cr f.1 f.2 e.2 = - ((f.2.2 - f.1.2) * (e.2.1 - f.1.1)) := by unfold cr; rw [← hv]; grind
  have p1 := Int.mul_pos (show 0 < f.2.2 - f.1.2 by omega) (show 0 < f.1.1 - e.1.1 by omega)
  have p2 := Int.mul_pos (show 0 < f.2.2 - f.1.2 by omega) (show 0 < e.2.1 - f.1.1 by omega)
  have h3 : meetF e f = 3 := by
    unfold meetF Same
    rw [if_neg (by omega), if_neg (by omega), if_neg (by omega), if_neg (by omega)]
  rcases hp with hp | hp | hp | hp
  · omega
  · omega
  · have := above_of (a := e.1) (b := e.2) (z := f.1) (by omega) (by omega) (by omega)
    omega
  · have := below_of (a := e.1) (b := e.2) (z := f.2) (by omega) (by omega) (by omega)
    omega
theorem n3 {e f : Sg} (hp : Apart e f) (lf : ltP f.1 f.2) (hv : f.1.1 = f.2.1) (h1 : e.1.1 < f.1.1) (h2 : f.1.1 < e.2.1) : Same (cr e.1 e.2 f.1) (cr e.1 e.2 f.2) := by
  have le : ltP e.1 e.2 := by unfold ltP; omega
  have hA : cr e.1 e.2 f.1 ≠ 0 := fun h => n2_aux hp le lf (.inl ⟨rfl, rfl⟩) h (.inl (by omega)) (.inl (by omega))
  have hB : cr e.1 e.2 f.2 ≠ 0 := fun h => n2_aux hp le lf (.inr ⟨rfl, rfl⟩) h (.inl (by omega)) (.inl (by omega))
  exact n3_w hp.weak lf hv h1 h2 hA hB
end Go.Proofs.YtlglfcdobbocnaaGreat

/-! Sums over the pieces of a figure; the pieces above a piece. -/
namespace Go.Proofs.YtlglfcdobbocnaaGreat

/-- The sum of the first n values. -/
def sm : Nat → (Nat → Int) → Int
  | 0, _ => 0
  | n + 1, f => sm n f + f n
theorem sm_congr {n : Nat} {f g : Nat → Int} (h : ∀ i, i < n → f i = g i) : sm n f = sm n g := by
  induction n with
  | zero => rfl
  | succ n ih => unfold sm; rw [ih (fun i hi => h i (by omega)), h n (by omega)]
theorem sm_add (n : Nat) (f g : Nat → Int) : sm n (fun i => f i + g i) = sm n f + sm n g := by
  induction n with
  | zero => rfl
  | succ n ih => unfold sm; rw [ih]; simp only []; omega
theorem sm_sub (n : Nat) (f g : Nat → Int) : sm n (fun i => f i - g i) = sm n f - sm n g := by
  induction n with
  | zero => rfl
  | succ n ih => unfold sm; rw [ih]; simp only []; omega
theorem sm_zero (n : Nat) : sm n (fun _ => 0) = 0 := by
  induction n with
  | zero => rfl
  | succ n ih => unfold sm; rw [ih]; rfl
theorem sm_mul (n : Nat) (c : Int) (f : Nat → Int) : sm n (fun i => c * f i) = c * sm n f := by
  induction n with
  | zero => simp [sm]
  | succ n ih => unfold sm; rw [ih, Int.mul_add]

/-- One if it is so, else none. -/
noncomputable def ind (p : Prop) : Int := @ite _ p (Classical.propDecidable p) 1 0
theorem ind_true {p : Prop} (h : p) : ind p = 1 := by unfold ind; rw [if_pos h]
theorem ind_false {p : Prop} (h : ¬ p) : ind p = 0 := by unfold ind; rw [if_neg h]
theorem ind_congr {p q : Prop} (h : p ↔ q) : ind p = ind q := by rw [propext h]
theorem ind_cases (p : Prop) : p ∧ ind p = 1 ∨ ¬ p ∧ ind p = 0 := by
  by_cases h : p
  · exact .inl ⟨h, ind_true h⟩
  · exact .inr ⟨h, ind_false h⟩

/-- Pieces, each from its lesser end to its greater one, that meet at ends alone. -/
structure Figure (n : Nat) (e : Nat → Sg) : Prop where
  lt : ∀ i, i < n → ltP (e i).1 (e i).2
  apart : ∀ i j, i < n → j < n → i ≠ j → Apart (e i) (e j)
/-- Weights of which at each point as much comes in as goes out. -/
def Closed (n : Nat) (e : Nat → Sg) (t : Nat → Int) : Prop := ∀ φ : Pt → Int, sm n (fun i => t i * (φ (e i).1 - φ (e i).2)) = 0
theorem Closed.eq {n : Nat} {e : Nat → Sg} {t : Nat → Int} (h : Closed n e t) (φ : Pt → Int) {F G : Nat → Int} (hd : ∀ i, i < n → F i - G i = φ (e i).1 - φ (e i).2) : sm n (fun i => t i * F i) = sm n (fun i => t i * G i) := by
  have h1 := h φ
  have h2 : sm n (fun i => t i * F i - t i * G i) = 0 := by
    rw [← h1]
    refine sm_congr fun i hi => ?_
    rw [← hd i hi, Int.mul_sub]
  rw [sm_sub] at h2
  omega

/-- A piece f lies above e between x and x + 1. -/
def Ab (e f : Sg) (x : Int) : Prop := f.1.1 ≤ x ∧ x < f.2.1 ∧ 0 < gap e f x + gap e f (x + 1)
noncomputable def U (n : Nat) (e : Nat → Sg) (t : Nat → Int) (k : Nat) (x : Int) : Int := sm n (fun i => t i * ind (Ab (e k) (e i) x))
theorem gap_self (e : Sg) (x : Int) : gap e e x = 0 := by unfold gap; grind
theorem not_ab_self (e : Sg) (x : Int) : ¬ Ab e e x := fun h => by
  have := h.2.2
  rw [gap_self, gap_self] at this
  omega

/-- A segment over pieces: none crosses or overlaps it, no end of one lies inside it. -/
structure Clear (a : Sg) (f : Sg) : Prop where
  w : ApartW a f
  n2 : ∀ z, z = f.1 ∨ z = f.2 → cr a.1 a.2 z = 0 → ltP a.1 z → ltP z a.2 → False
theorem Apart.clear {a f : Sg} (hp : Apart a f) (la : ltP a.1 a.2) (lf : ltP f.1 f.2) : Clear a f :=
  ⟨hp.weak, fun z hz h0 h1 h2 => by
    rcases hz with rfl | rfl
    · exact n2_aux hp la lf (.inl ⟨rfl, rfl⟩) h0 h1 h2
    · exact n2_aux hp la lf (.inr ⟨rfl, rfl⟩) h0 h1 h2⟩
/-- The sum over the pieces above a segment, in the column of x. -/
noncomputable def Us (n : Nat) (e : Nat → Sg) (t : Nat → Int) (a : Sg) (x : Int) : Int := sm n (fun i => t i * ind (Ab a (e i) x))
theorem Us_step {n : Nat} {e : Nat → Sg} {t : Nat → Int} (hc : Closed n e t) (hl : ∀ i, i < n → ltP (e i).1 (e i).2) {a : Sg} (hk : ∀ i, i < n → Clear a (e i) ∨ e i = a) {x : Int} (h1 : a.1.1 < x) (h2 : x < a.2.1) : Us n e t a (x - 1) = Us n e t a x := by
  unfold Us
  symm
  refine hc.eq (fun z => ind (z.1 = x ∧ 0 < cr a.1 a.2 z)) fun i hi => ?_
  have le : ltP a.1 a.2 := by unfold ltP; omega
  have lf := hl i hi
  rcases hk i hi with hk | hk
  case inr =>
    rw [hk]
    rw [ind_false (not_ab_self _ _), ind_false (not_ab_self _ _), ind_false (fun h => by omega), ind_false (fun h => by omega)]
  obtain ⟨hp, n2⟩ := hk
  generalize e i = f at *
  have hfx : f.1.1 ≤ f.2.1 := by unfold ltP at lf; omega
  have hs1 := gap_step a f (x - 1) x
  have hs2 := gap_step a f x (x + 1)
  rw [show x - (x - 1) = 1 by omega, Int.mul_one] at hs1
  rw [show x + 1 - x = 1 by omega, Int.mul_one] at hs2
  unfold Ab
  rw [show x - 1 + 1 = x by omega]
  by_cases c1 : f.2.1 < x
  · rw [ind_false (fun h => by omega), ind_false (fun h => by omega), ind_false (fun h => by omega), ind_false (fun h => by omega)]
  by_cases c2 : x < f.1.1
  · rw [ind_false (fun h => by omega), ind_false (fun h => by omega), ind_false (fun h => by omega), ind_false (fun h => by omega)]
  by_cases c3 : f.1.1 < x
  · by_cases c4 : x < f.2.1
    · have n1 := n1_w hp (x := x - 1) (y := x + 1) ⟨by omega, by omega, by omega, by omega⟩ (by omega)
      rw [ind_false (p := f.1.1 = x ∧ _) (fun h => by omega), ind_false (p := f.2.1 = x ∧ _) (fun h => by omega)]
      rw [ind_congr (p := f.1.1 ≤ x ∧ x < f.2.1 ∧ 0 < gap a f x + gap a f (x + 1)) (q := f.1.1 ≤ x - 1 ∧ x - 1 < f.2.1 ∧ 0 < gap a f (x - 1) + gap a f x) (by omega)]
      omega
    · have c5 : f.2.1 = x := by omega
      have n1 := n1_w hp (x := x - 1) (y := x) ⟨by omega, by omega, by omega, by omega⟩ (by omega)
      have hz : cr a.1 a.2 f.2 ≠ 0 := fun h => n2 _ (.inr rfl) h (.inl (by omega)) (.inl (by omega))
      have hg := gap_d a f
      rw [c5] at hg
      have hm := mulp (a := x - f.1.1) (x := cr a.1 a.2 f.2) (by omega)
      rw [← hg] at hm
      rw [ind_false (p := f.1.1 ≤ x ∧ _) (fun h => by omega), ind_false (p := f.1.1 = x ∧ _) (fun h => by omega)]
      rw [ind_congr (p := f.1.1 ≤ x - 1 ∧ x - 1 < f.2.1 ∧ 0 < gap a f (x - 1) + gap a f x) (q := f.2.1 = x ∧ 0 < cr a.1 a.2 f.2) (by omega)]
  · have c3' : f.1.1 = x := by omega
    by_cases c4 : x < f.2.1
    · have n1 := n1_w hp (x := x) (y := x + 1) ⟨by omega, by omega, by omega, by omega⟩ (by omega)
      have hz : cr a.1 a.2 f.1 ≠ 0 := fun h => n2 _ (.inl rfl) h (.inl (by omega)) (.inl (by omega))
      have hg := gap_c a f
      rw [c3'] at hg
      have hm := mulp (a := f.2.1 - x) (x := cr a.1 a.2 f.1) (by omega)
      rw [← hg] at hm
      rw [ind_false (p := f.1.1 ≤ x - 1 ∧ _) (fun h => by omega), ind_false (p := f.2.1 = x ∧ _) (fun h => by omega)]
      rw [ind_congr (p := f.1.1 ≤ x ∧ x < f.2.1 ∧ 0 < gap a f x + gap a f (x + 1)) (q := f.1.1 = x ∧ 0 < cr a.1 a.2 f.1) (by omega)]
    · have n3 := n3_w hp lf (by omega) (by omega) (by omega) (fun h => n2 _ (.inl rfl) h (.inl (by omega)) (.inl (by omega))) (fun h => n2 _ (.inr rfl) h (.inl (by omega)) (.inl (by omega)))
      unfold Same at n3
      rw [ind_false (p := f.1.1 ≤ x ∧ _) (fun h => by omega), ind_false (p := f.1.1 ≤ x - 1 ∧ _) (fun h => by omega)]
      rw [ind_congr (p := f.1.1 = x ∧ 0 < cr a.1 a.2 f.1) (q := f.2.1 = x ∧ 0 < cr a.1 a.2 f.2) (by omega)]
      omega
theorem U_step {n : Nat} {e : Nat → Sg} {t : Nat → Int} (hf : Figure n e) (hc : Closed n e t) {k : Nat} (hk : k < n) {x : Int} (h1 : (e k).1.1 < x) (h2 : x < (e k).2.1) : U n e t k (x - 1) = U n e t k x :=
  Us_step hc hf.lt (fun i hi => by
    by_cases h : k = i
    · subst h; exact .inr rfl
    · exact .inl ((hf.apart k i hk hi h).clear (hf.lt k hk) (hf.lt i hi))) h1 h2
end Go.Proofs.YtlglfcdobbocnaaGreat

/-! Directions about a point; the sum to the left of a dart at its end. -/
namespace Go.Proofs.YtlglfcdobbocnaaGreat

/-- The sign of a product. -/
theorem sgn (a b : Int) : (0 < a → 0 < b → 0 < a * b) ∧ (0 < a → b < 0 → a * b < 0) ∧ (a < 0 → 0 < b → a * b < 0) ∧ (a < 0 → b < 0 → 0 < a * b) ∧ (a = 0 → a * b = 0) ∧ (b = 0 → a * b = 0) := by
  refine ⟨Int.mul_pos, fun h k => ?_, fun h k => ?_, fun h k => ?_, fun h => by rw [h, Int.zero_mul], fun h => by rw [h, Int.mul_zero]⟩
  · have := Int.mul_pos h (show 0 < -b by omega)
    rw [Int.mul_neg] at this
    omega
  · have := Int.mul_pos (show 0 < -a by omega) k
    rw [Int.neg_mul] at this
    omega
  · have := Int.mul_pos (show 0 < -a by omega) (show 0 < -b by omega)
    rw [Int.neg_mul_neg] at this
    omega
/-- .. by its nine cases. -/
theorem sgnc (a b : Int) : (0 < a ∧ (0 < b ∧ 0 < a * b ∨ b < 0 ∧ a * b < 0 ∨ b = 0 ∧ a * b = 0)) ∨ (a < 0 ∧ (0 < b ∧ a * b < 0 ∨ b < 0 ∧ 0 < a * b ∨ b = 0 ∧ a * b = 0)) ∨ (a = 0 ∧ a * b = 0) := by
  obtain ⟨h1, h2, h3, h4, h5, h6⟩ := sgn a b
  rcases Int.lt_trichotomy a 0 with g | g | g <;> rcases Int.lt_trichotomy b 0 with k | k | k <;> simp only [g, k, true_and, true_or, or_true, forall_const, Int.mul_zero, Int.zero_mul, Int.lt_irrefl, false_and, false_or] at * <;> omega
/-- A direction points downward, or straight to the left. -/
def low (w : Pt) : Prop := w.2 < 0 ∨ w.2 = 0 ∧ w.1 < 0
instance (w : Pt) : Decidable (low w) := by unfold low; infer_instance
def crs (w v : Pt) : Int := w.1 * v.2 - w.2 * v.1
/-- Before by the angle, counterclockwise from the right. -/
def angLt (w v : Pt) : Prop := ¬ low w ∧ low v ∨ (low w ↔ low v) ∧ 0 < crs w v
instance (w v : Pt) : Decidable (angLt w v) := by unfold angLt; infer_instance
def fwd (f : Sg) : Pt := (f.2.1 - f.1.1, f.2.2 - f.1.2)
def bwd (f : Sg) : Pt := (f.1.1 - f.2.1, f.1.2 - f.2.2)
theorem crs_self (w : Pt) : crs w w = 0 := by unfold crs; grind
theorem ang_irrefl (w : Pt) : ¬ angLt w w := by
  rintro (⟨h1, h2⟩ | ⟨-, h⟩)
  · exact h1 h2
  · rw [crs_self] at h
    omega
theorem crs_anti (w v : Pt) : crs v w = - crs w v := by unfold crs; grind
theorem ang_tri {w v : Pt} (h : ¬ angLt w v) (k : ¬ angLt v w) : (low w ↔ low v) ∧ crs w v = 0 := by
  have e := crs_anti w v
  unfold angLt at h k
  by_cases a : low w <;> by_cases b : low v
  · simp only [a, b, not_true, false_and, true_and, false_or, iff_self] at h k ⊢
    omega
  · simp [a, b] at k
  · simp [a, b] at h
  · simp only [a, b, not_false_eq_true, and_false, true_and, false_or, iff_self] at h k ⊢
    omega
theorem ang_asymm {w v : Pt} (h : angLt w v) : ¬ angLt v w := by
  have e := crs_anti w v
  rintro (⟨k1, k2⟩ | ⟨k1, k2⟩) <;> rcases h with ⟨h1, h2⟩ | ⟨h1, h2⟩
  · exact h1 k2
  · exact k1 (h1.1 k2)
  · exact h1 (k1.1 h2)
  · omega
/-- A piece passes strictly above a point, or begins there to the right. -/
def Pp (v : Pt) (f : Sg) : Prop := f.1.1 ≤ v.1 ∧ v.1 < f.2.1 ∧ cr f.1 f.2 v < 0
/-- What a piece adds to the left of the direction g from v. -/
noncomputable def Bc (v g : Pt) (f : Sg) : Int :=
  ind (Pp v f) + ind (f.1 = v ∧ f.1.1 < f.2.1 ∧ f.1.2 ≤ f.2.2) - ind (f.1 = v ∧ ¬ angLt g (fwd f)) + ind (f.2 = v ∧ ¬ angLt g (bwd f))
noncomputable def Bv (n : Nat) (e : Nat → Sg) (t : Nat → Int) (v g : Pt) : Int := sm n (fun i => t i * Bc v g (e i))

theorem pp_at_1 (f : Sg) : ind (Pp f.1 f) = 0 := ind_false fun h => by
  have h := h.2.2
  unfold cr at h
  simp at h
theorem pp_at_2 (f : Sg) : ind (Pp f.2 f) = 0 := ind_false fun h => by
  have h := h.2.1
  omega
theorem cr_fwd (a b : Pt) (f : Sg) (h : f.1 = a) : cr a b f.2 = crs (b.1 - a.1, b.2 - a.2) (fwd f) := by subst h; rfl
theorem dec_ne {a b : Pt} (h : a ≠ b) : a.1 < b.1 ∨ b.1 < a.1 ∨ a.2 < b.2 ∨ b.2 < a.2 := by
  have : ¬ (a.1 = b.1 ∧ a.2 = b.2) := fun e => h (Prod.ext e.1 e.2)
  omega
theorem not_self {e f : Sg} (hp : Apart e f) (le : ltP e.1 e.2) (h1 : e.1 = f.1) (h2 : e.2 = f.2) : False := by
  obtain rfl : e = f := Prod.ext h1 h2
  have h4 : meetF e e = 4 := by
    unfold meetF
    rw [if_pos ⟨by unfold cr; grind, by unfold cr; grind⟩, if_pos]
    unfold lowP highP
    rw [ends_lt le, if_neg (ltP_irrefl _), if_neg (ltP_irrefl _)]
    exact le
  rcases hp with hp | hp | hp | hp <;> omega
/-- Two pieces from one point have two directions. -/
theorem tri_ff {e f : Sg} (hp : Apart e f) (hq : Apart f e) (le : ltP e.1 e.2) (lf : ltP f.1 f.2) (h : e.1 = f.1) : angLt (fwd e) (fwd f) ∨ angLt (fwd f) (fwd e) := by
  apply Decidable.byContradiction
  intro hn
  have hc := (ang_tri (fun h => hn (.inl h)) (fun h => hn (.inr h))).2
  have c1 : cr e.1 e.2 f.2 = 0 := by
    rw [← hc]; unfold cr crs fwd; rw [h]
  have c2 : cr f.1 f.2 e.2 = 0 := by
    have : cr f.1 f.2 e.2 = - crs (fwd e) (fwd f) := by unfold cr crs fwd; rw [h]; grind
    omega
  by_cases h2 : e.2 = f.2
  · exact not_self hp le h h2
  · rcases ltP_total h2 with g | g
    · exact n2_aux hq lf le (.inr ⟨rfl, rfl⟩) c2 (h ▸ le) g
    · exact n2_aux hp le lf (.inr ⟨rfl, rfl⟩) c1 (h ▸ lf) g
theorem tri_bb {e f : Sg} (hp : Apart e f) (hq : Apart f e) (le : ltP e.1 e.2) (lf : ltP f.1 f.2) (h : e.2 = f.2) : angLt (bwd e) (bwd f) ∨ angLt (bwd f) (bwd e) := by
  apply Decidable.byContradiction
  intro hn
  have hc := (ang_tri (fun h => hn (.inl h)) (fun h => hn (.inr h))).2
  have c1 : cr e.1 e.2 f.1 = 0 := by
    have : cr e.1 e.2 f.1 = - crs (bwd e) (bwd f) := by unfold cr crs bwd; rw [h]; grind
    omega
  have c2 : cr f.1 f.2 e.1 = 0 := by
    have : cr f.1 f.2 e.1 = crs (bwd e) (bwd f) := by unfold cr crs bwd; rw [h]; grind
    omega
  by_cases h2 : e.1 = f.1
  · exact not_self hp le h2 h
  · rcases ltP_total h2 with g | g
    · exact n2_aux hp le lf (.inl ⟨rfl, rfl⟩) c1 g (h ▸ lf)
    · exact n2_aux hq lf le (.inl ⟨rfl, rfl⟩) c2 g (h ▸ le)
theorem tri_fb {e f : Sg} (le : ltP e.1 e.2) (lf : ltP f.1 f.2) : angLt (fwd e) (bwd f) ∨ angLt (bwd f) (fwd e) := by
  apply Decidable.byContradiction
  intro hn
  have hc := ang_tri (fun h => hn (.inl h)) (fun h => hn (.inr h))
  unfold low crs fwd bwd at hc
  unfold ltP at le lf
  simp only [] at hc
  obtain ⟨hl, hc⟩ := hc
  generalize hp : e.2.1 - e.1.1 = p at *
  generalize hq : e.2.2 - e.1.2 = q at *
  generalize hr : f.1.1 - f.2.1 = r at *
  generalize hs : f.1.2 - f.2.2 = s at *
  have s1 := sgnc p s
  have s2 := sgnc q r
  generalize p * s = X at *
  generalize q * r = Y at *
  have l1 : 0 < p ∨ p = 0 ∧ 0 < q := by omega
  have l2 : r < 0 ∨ r = 0 ∧ s < 0 := by omega
  clear hn hp hq hr hs le lf
  rcases s1 with ⟨k1, s1⟩ | ⟨k1, s1⟩ | ⟨k1, s1⟩ <;> rcases s2 with ⟨k2, s2⟩ | ⟨k2, s2⟩ | ⟨k2, s2⟩ <;> omega

end Go.Proofs.YtlglfcdobbocnaaGreat

/-! What lies to the left of a dart at its two ends. -/
namespace Go.Proofs.YtlglfcdobbocnaaGreat
theorem ind_ite (p : Prop) [h : Decidable p] : ind p = if p then 1 else 0 := by
  by_cases k : p
  · rw [ind_true k, if_pos k]
  · rw [ind_false k, if_neg k]
/-- The four truths of a sum, by cases. -/
theorem ind_and_true (p : Prop) : ind (True ∧ p) = ind p := by rw [true_and]
theorem c1_start {e f : Sg} (hp : Apart e f) (hq : Apart f e) (le : ltP e.1 e.2) (lf : ltP f.1 f.2) (hx : e.1.1 < e.2.1) (h1 : f.1 = e.1) :
    ind (Ab e f e.1.1) - Bc e.1 (fwd e) f = ind (low (fwd e)) * ind (f.1 = e.1) - ind (low (fwd e)) * ind (f.2 = e.1) := by
  have t := tri_ff hp hq le lf h1.symm
  have h2 : f.2 ≠ e.1 := fun h => by rw [h1, h] at lf; exact ltP_irrefl _ lf
  have hg := gap_step e f e.1.1 (e.1.1 + 1)
  have hg0 := gap_a e f
  have hz : cr f.1 f.2 e.1 = 0 := by rw [h1]; unfold cr; simp
  rw [hz] at hg0
  have hs : slope e f = crs (fwd e) (fwd f) := by unfold slope crs fwd; grind
  rw [hs] at hg
  have hpp : ind (Pp e.1 f) = 0 := by rw [← h1]; exact pp_at_1 f
  unfold Bc Ab
  rw [hpp]
  clear hpp hz hs hp hq
  obtain ⟨⟨a1, a2⟩, b1, b2⟩ := e
  obtain ⟨c, d1, d2⟩ := f
  simp only [] at h1
  subst h1
  unfold angLt low fwd crs ltP at *
  simp only [true_and] at *
  rw [ind_false (p := (d1, d2) = (a1, a2)) h2, ind_false (p := (d1, d2) = (a1, a2) ∧ _) (fun h => h2 h.1), ind_true (p := True) trivial]
  have lf' : 0 < d1 - a1 ∨ d1 - a1 = 0 ∧ 0 < d2 - a2 := by omega
  have e1 : a1 < d1 ↔ 0 < d1 - a1 := by omega
  have e2 : a2 ≤ d2 ↔ 0 ≤ d2 - a2 := by omega
  have e3 : 0 < b1 - a1 := by omega
  rw [show a1 + 1 - a1 = 1 by omega, Int.mul_one] at hg
  rw [Int.mul_zero, Int.neg_zero] at hg0
  rw [hg0, Int.zero_add] at hg
  have t' : (d1 - a1) * (b2 - a2) - (d2 - a2) * (b1 - a1) = - ((b1 - a1) * (d2 - a2) - (b2 - a2) * (d1 - a1)) := by grind
  rw [t'] at t
  have s1 := sgnc (b1 - a1) (d2 - a2)
  have s2 := sgnc (b2 - a2) (d1 - a1)
  rw [hg0, Int.zero_add, hg]
  clear hg hg0 t' lf le hx h2
  rw [ind_congr (q := 0 < d1 - a1 ∧ 0 < (b1 - a1) * (d2 - a2) - (b2 - a2) * (d1 - a1)) (by rw [e1]; simp), e1, e2]
  clear e1 e2
  generalize (b1 - a1) * (d2 - a2) = X at *
  generalize (b2 - a2) * (d1 - a1) = Y at *
  generalize b1 - a1 = p at *
  generalize b2 - a2 = q at *
  generalize d1 - a1 = r at *
  generalize d2 - a2 = s at *
  simp only [ind_ite]
  grind
theorem c1_end {e f : Sg} (lf : ltP f.1 f.2) (hx : e.1.1 < e.2.1) (h1 : f.2 = e.1) :
    ind (Ab e f e.1.1) - Bc e.1 (fwd e) f = ind (low (fwd e)) * ind (f.1 = e.1) - ind (low (fwd e)) * ind (f.2 = e.1) := by
  have h2 : f.1 ≠ e.1 := fun h => by rw [h1, h] at lf; exact ltP_irrefl _ lf
  have hpp : ind (Pp e.1 f) = 0 := by rw [← h1]; exact pp_at_2 f
  unfold Bc Ab
  rw [hpp]
  clear hpp
  obtain ⟨⟨a1, a2⟩, b1, b2⟩ := e
  obtain ⟨⟨c1, c2⟩, d⟩ := f
  simp only [] at h1
  subst h1
  unfold angLt low fwd bwd crs ltP at *
  simp only [true_and] at *
  rw [ind_false (p := (c1, c2) = (a1, a2)) h2, ind_false (p := (c1, c2) = (a1, a2) ∧ _) (fun h => h2 h.1), ind_false (p := (c1, c2) = (a1, a2) ∧ _) (fun h => h2 h.1), ind_true (p := True) trivial, ind_false (p := c1 ≤ a1 ∧ _) (by omega)]
  have lf' : c1 - a1 < 0 ∨ c1 - a1 = 0 ∧ c2 - a2 < 0 := by omega
  have e3 : 0 < b1 - a1 := by omega
  have s1 := sgnc (b1 - a1) (c2 - a2)
  have s2 := sgnc (b2 - a2) (c1 - a1)
  clear lf hx h2
  generalize (b1 - a1) * (c2 - a2) = X at *
  generalize (b2 - a2) * (c1 - a1) = Y at *
  generalize b1 - a1 = p at *
  generalize b2 - a2 = q at *
  generalize c1 - a1 = r at *
  generalize c2 - a2 = s at *
  simp only [ind_ite]
  grind
/-- An end of this piece that lies on another one is an end of that one. -/
theorem off_of {e f : Sg} {v : Pt} (hq : Apart f e) (le : ltP e.1 e.2) (lf : ltP f.1 f.2) (hv : v = e.1 ∨ v = e.2) (h1 : f.1 ≠ v) (h2 : f.2 ≠ v) (h3 : ¬ ltP v f.1) (h4 : ¬ ltP f.2 v) : cr f.1 f.2 v ≠ 0 := fun h => by
  have k1 := (ltP_total h1).resolve_right h3
  have k2 := (ltP_total h2).resolve_left h4
  rcases hv with hv | hv
  · exact n2_aux hq lf le (.inl ⟨hv, rfl⟩) h k1 k2
  · exact n2_aux hq lf le (.inr ⟨hv, rfl⟩) h k1 k2
theorem c1_other {e f : Sg} (hp : Apart e f) (hq : Apart f e) (le : ltP e.1 e.2) (lf : ltP f.1 f.2) (hx : e.1.1 < e.2.1) (h1 : f.1 ≠ e.1) (h2 : f.2 ≠ e.1) :
    Ab e f e.1.1 ↔ Pp e.1 f := by
  unfold Ab Pp
  by_cases g1 : f.1.1 ≤ e.1.1 ∧ e.1.1 < f.2.1
  · have n1 := n1_up hp (x := e.1.1) (y := e.1.1 + 1) ⟨by omega, by omega, by omega, by omega⟩ (by omega)
    have hga := gap_a e f
    have hm := mulp (a := e.2.1 - e.1.1) (x := cr f.1 f.2 e.1) (by omega)
    have h3 : ¬ ltP e.1 f.1 ∨ f.1.1 = e.1.1 := by unfold ltP; omega
    have hz : cr f.1 f.2 e.1 ≠ 0 := by
      by_cases h4 : ltP e.1 f.1
      · have g : f.1.1 = e.1.1 ∧ e.1.2 < f.1.2 := by unfold ltP at h4; omega
        have e1 : cr f.1 f.2 e.1 = (f.2.1 - f.1.1) * (e.1.2 - f.1.2) := by unfold cr; rw [g.1]; grind
        have := sgnc (f.2.1 - f.1.1) (e.1.2 - f.1.2)
        omega
      · exact off_of hq le lf (.inl rfl) h1 h2 h4 (by unfold ltP; omega)
    omega
  · constructor <;> (intro h; omega)
/-- What lies to the left of a piece at its lower end is what lies above it. -/
theorem c1_one {e f : Sg} (hp : Apart e f) (hq : Apart f e) (le : ltP e.1 e.2) (lf : ltP f.1 f.2) (hx : e.1.1 < e.2.1) :
    ind (Ab e f e.1.1) - Bc e.1 (fwd e) f = ind (low (fwd e)) * ind (f.1 = e.1) - ind (low (fwd e)) * ind (f.2 = e.1) := by
  by_cases h1 : f.1 = e.1
  · exact c1_start hp hq le lf hx h1
  by_cases h2 : f.2 = e.1
  · exact c1_end lf hx h2
  unfold Bc
  rw [ind_congr (c1_other hp hq le lf hx h1 h2), ind_false (p := f.1 = e.1 ∧ _) (fun h => h1 h.1), ind_false (p := f.1 = e.1 ∧ _) (fun h => h1 h.1), ind_false (p := f.2 = e.1 ∧ _) (fun h => h2 h.1), ind_false h1, ind_false h2]
  omega
theorem c1_self {e : Sg} (le : ltP e.1 e.2) (hx : e.1.1 < e.2.1) :
    ind (Ab e e e.1.1) - Bc e.1 (fwd e) e = ind (low (fwd e)) * ind (e.1 = e.1) - ind (low (fwd e)) * ind (e.2 = e.1) := by
  have h2 : e.2 ≠ e.1 := fun h => by rw [h] at le; exact ltP_irrefl _ le
  unfold Bc
  rw [ind_false (not_ab_self _ _), pp_at_1, ind_false h2, ind_false (p := e.2 = e.1 ∧ _) (fun h => h2 h.1), ind_true (p := e.1 = e.1) rfl, ind_true (p := e.1 = e.1 ∧ _) ⟨rfl, ang_irrefl _⟩]
  unfold low fwd
  simp only [ind_ite, true_and]
  grind
theorem C1 {n : Nat} {e : Nat → Sg} {t : Nat → Int} (hf : Figure n e) (hc : Closed n e t) {k : Nat} (hk : k < n) (hx : (e k).1.1 < (e k).2.1) :
    U n e t k (e k).1.1 = Bv n e t (e k).1 (fwd (e k)) := by
  unfold U Bv
  refine hc.eq (fun z => ind (low (fwd (e k))) * ind (z = (e k).1)) fun i hi => ?_
  by_cases h : k = i
  · subst h
    exact c1_self (hf.lt k hk) hx
  · exact c1_one (hf.apart k i hk hi h) (hf.apart i k hi hk (Ne.symm h)) (hf.lt k hk) (hf.lt i hi) hx
end Go.Proofs.YtlglfcdobbocnaaGreat

/-! What lies to the left of a dart at its upper end; vertical pieces. -/
namespace Go.Proofs.YtlglfcdobbocnaaGreat
noncomputable def phi2 (v z : Pt) : Int := - ind (z.1 = v.1 ∧ v.2 < z.2)
theorem c2_self {e : Sg} (hx : e.1.1 < e.2.1) (le : ltP e.1 e.2) :
    ind (Ab e e (e.2.1 - 1)) + 1 - Bc e.2 (bwd e) e = phi2 e.2 e.1 - phi2 e.2 e.2 := by
  have h2 : e.1 ≠ e.2 := fun h => by rw [h] at le; exact ltP_irrefl _ le
  unfold Bc phi2
  rw [ind_false (not_ab_self _ _), pp_at_2, ind_false (p := e.1 = e.2 ∧ _) (fun h => h2 h.1), ind_false (p := e.1 = e.2 ∧ _) (fun h => h2 h.1), ind_true (p := e.2 = e.2 ∧ _) ⟨rfl, ang_irrefl _⟩, ind_false (p := e.1.1 = e.2.1 ∧ _) (by omega), ind_false (p := e.2.1 = e.2.1 ∧ _) (by omega)]
  omega
theorem c2_start {e f : Sg} (lf : ltP f.1 f.2) (hx : e.1.1 < e.2.1) (h1 : f.1 = e.2) :
    ind (Ab e f (e.2.1 - 1)) - Bc e.2 (bwd e) f = phi2 e.2 f.1 - phi2 e.2 f.2 := by
  have h2 : f.2 ≠ e.2 := fun h => by rw [h1, h] at lf; exact ltP_irrefl _ lf
  have hpp : ind (Pp e.2 f) = 0 := by rw [← h1]; exact pp_at_1 f
  unfold Bc Ab phi2
  rw [hpp]
  clear hpp
  obtain ⟨⟨a1, a2⟩, b1, b2⟩ := e
  obtain ⟨c, d1, d2⟩ := f
  simp only [] at h1
  subst h1
  unfold angLt low fwd bwd crs ltP at *
  simp only [true_and] at *
  rw [ind_false (p := (d1, d2) = (b1, b2) ∧ _) (fun h => h2 h.1), ind_false (p := b1 ≤ b1 - 1 ∧ _) (by omega), ind_false (p := b2 < b2) (by omega)]
  have lf' : 0 < d1 - b1 ∨ d1 - b1 = 0 ∧ 0 < d2 - b2 := by omega
  have e3 : a1 - b1 < 0 := by omega
  have e4 : d1 = b1 ∧ b2 < d2 ↔ d1 - b1 = 0 ∧ 0 < d2 - b2 := by omega
  have e1 : b1 < d1 ↔ 0 < d1 - b1 := by omega
  have e2 : b2 ≤ d2 ↔ 0 ≤ d2 - b2 := by omega
  rw [e1, e2, e4]
  have s1 := sgnc (a1 - b1) (d2 - b2)
  have s2 := sgnc (a2 - b2) (d1 - b1)
  clear lf hx h2 e1 e2 e4
  generalize (a1 - b1) * (d2 - b2) = X at *
  generalize (a2 - b2) * (d1 - b1) = Y at *
  generalize a1 - b1 = p at *
  generalize a2 - b2 = q at *
  generalize d1 - b1 = r at *
  generalize d2 - b2 = s at *
  simp only [ind_ite]
  grind
theorem c2_end {e f : Sg} (hp : Apart e f) (hq : Apart f e) (le : ltP e.1 e.2) (lf : ltP f.1 f.2) (hx : e.1.1 < e.2.1) (h1 : f.2 = e.2) :
    ind (Ab e f (e.2.1 - 1)) - Bc e.2 (bwd e) f = phi2 e.2 f.1 - phi2 e.2 f.2 := by
  have t := tri_bb hp hq le lf h1.symm
  have h2 : f.1 ≠ e.2 := fun h => by rw [h1, h] at lf; exact ltP_irrefl _ lf
  have hg := gap_step e f (e.2.1 - 1) e.2.1
  have hg0 := gap_b e f
  have hz : cr f.1 f.2 e.2 = 0 := by rw [← h1]; unfold cr; grind
  rw [hz] at hg0
  have hs : slope e f = crs (bwd e) (bwd f) := by unfold slope crs bwd; grind
  rw [hs] at hg
  have hpp : ind (Pp e.2 f) = 0 := by rw [← h1]; exact pp_at_2 f
  unfold Bc Ab phi2
  rw [hpp]
  clear hpp hz hs hp hq
  obtain ⟨⟨a1, a2⟩, b1, b2⟩ := e
  obtain ⟨⟨c1, c2⟩, d⟩ := f
  simp only [] at h1
  subst h1
  unfold angLt low bwd crs ltP at *
  simp only [true_and] at *
  rw [ind_false (p := (c1, c2) = (b1, b2) ∧ _) (fun h => h2 h.1), ind_false (p := (c1, c2) = (b1, b2) ∧ _) (fun h => h2 h.1), ind_false (p := b2 < b2) (by omega), ind_false (p := c1 = b1 ∧ b2 < c2) (by omega)]
  have lf' : c1 - b1 < 0 ∨ c1 - b1 = 0 ∧ c2 - b2 < 0 := by omega
  have e3 : a1 - b1 < 0 := by omega
  rw [show b1 - 1 + 1 = b1 by omega]
  rw [show b1 - (b1 - 1) = 1 by omega, Int.mul_one] at hg
  rw [Int.mul_zero, Int.neg_zero] at hg0
  rw [hg0] at hg ⊢
  have t' : (c1 - b1) * (a2 - b2) - (c2 - b2) * (a1 - b1) = - ((a1 - b1) * (c2 - b2) - (a2 - b2) * (c1 - b1)) := by grind
  rw [t'] at t
  have s1 := sgnc (a1 - b1) (c2 - b2)
  have s2 := sgnc (a2 - b2) (c1 - b1)
  generalize gap ((a1, a2), b1, b2) ((c1, c2), b1, b2) (b1 - 1) = G at *
  obtain rfl : G = - ((a1 - b1) * (c2 - b2) - (a2 - b2) * (c1 - b1)) := by omega
  clear hg t' lf le hx h2
  rw [ind_congr (q := c1 - b1 < 0 ∧ (a1 - b1) * (c2 - b2) - (a2 - b2) * (c1 - b1) < 0) (by omega)]
  generalize (a1 - b1) * (c2 - b2) = X at *
  generalize (a2 - b2) * (c1 - b1) = Y at *
  generalize a1 - b1 = p at *
  generalize a2 - b2 = q at *
  generalize c1 - b1 = r at *
  generalize c2 - b2 = s at *
  simp only [ind_ite]
  grind
theorem c2_other {e f : Sg} (hp : Apart e f) (hq : Apart f e) (le : ltP e.1 e.2) (lf : ltP f.1 f.2) (hx : e.1.1 < e.2.1) (h1 : f.1 ≠ e.2) (h2 : f.2 ≠ e.2) :
    ind (Ab e f (e.2.1 - 1)) - Bc e.2 (bwd e) f = phi2 e.2 f.1 - phi2 e.2 f.2 := by
  unfold Bc phi2
  rw [ind_false (p := f.1 = e.2 ∧ _) (fun h => h1 h.1), ind_false (p := f.1 = e.2 ∧ _) (fun h => h1 h.1), ind_false (p := f.2 = e.2 ∧ _) (fun h => h2 h.1)]
  unfold Ab Pp
  have o := @off_of e f e.2 hq le lf (.inr rfl) h1 h2
  have n1 := fun (h : f.1.1 ≤ e.2.1 - 1 ∧ e.2.1 ≤ f.2.1) => n1_up hp (x := e.2.1 - 1) (y := e.2.1) ⟨by omega, by omega, by omega, by omega⟩ (by omega)
  have hga := gap_b e f
  have hm := mulp (a := e.2.1 - e.1.1) (x := cr f.1 f.2 e.2) (by omega)
  have m1 := mulp (a := f.2.1 - f.1.1) (x := e.2.2 - f.1.2)
  have m2 := mulp (a := f.2.1 - f.1.1) (x := e.2.2 - f.2.2)
  have e1 : f.1.1 = e.2.1 → cr f.1 f.2 e.2 = (f.2.1 - f.1.1) * (e.2.2 - f.1.2) := fun g => by unfold cr; rw [g]; grind
  have e2 : f.2.1 = e.2.1 → cr f.1 f.2 e.2 = (f.2.1 - f.1.1) * (e.2.2 - f.2.2) := fun g => by unfold cr; rw [← g]; grind
  have u1 := dec_ne h1
  have u2 := dec_ne h2
  have e3 : f.1.1 = f.2.1 → cr f.1 f.2 e.2 = (f.2.2 - f.1.2) * (f.1.1 - e.2.1) := fun g => by unfold cr; rw [← g]; grind
  rw [show e.2.1 - 1 + 1 = e.2.1 by omega]
  unfold ltP at *
  generalize gap e f (e.2.1 - 1) = G at *
  generalize gap e f e.2.1 = G' at *
  generalize cr f.1 f.2 e.2 = C at *
  generalize (f.2.1 - f.1.1) * (e.2.2 - f.1.2) = X at *
  generalize (f.2.1 - f.1.1) * (e.2.2 - f.2.2) = Y at *
  generalize (e.2.1 - e.1.1) * C = Z at *
  obtain ⟨⟨a1, a2⟩, b1, b2⟩ := e
  obtain ⟨⟨c1, c2⟩, d1, d2⟩ := f
  simp only [] at *
  simp only [ind_ite]
  clear hp hq h1 h2
  have lfx : c1 ≤ d1 := by rcases lf with h | h; exact Int.le_of_lt h; exact Int.le_of_eq h.1
  by_cases k1 : c1 ≤ b1 - 1
  · by_cases k2 : b1 ≤ d1
    · have := n1 ⟨k1, k2⟩
      by_cases k3 : b1 = d1
      · have := e2 k3.symm
        have := m2 (by clear n1 o e1 e2 e3 m1 m2; omega)
        clear n1 o e1 e2 e3 m1 m2
        grind
      · have := o (by clear n1 o e1 e2 e3 m1 m2 hm hga u1 u2 lf le this; omega) (by clear n1 o e1 e2 e3 m1 m2 hm hga u1 u2 lf le this; omega)
        clear n1 o e1 e2 e3 m1 m2
        grind
    · clear n1 o e1 e2 e3 m1 m2
      grind
  · by_cases k2 : c1 = b1
    · by_cases k3 : b1 < d1
      · have := e1 k2
        have := m1 (by clear n1 o e1 e2 e3 m1 m2; omega)
        clear n1 o e1 e2 e3 m1 m2
        grind
      · have k4 : d1 = b1 := Int.le_antisymm (Int.not_lt.1 k3) (k2 ▸ lfx)
        have := e3 (k2.trans k4.symm)
        have hC : C = 0 := by rw [this]; simp only [k2]; rw [Int.sub_self, Int.mul_zero]
        clear n1 e1 e2 e3 m1 m2 this
        grind
    · clear n1 o e1 e2 e3 m1 m2
      grind
theorem sm_pick (n k : Nat) (hk : k < n) (c : Nat → Int) : sm n (fun i => c i * ind (k = i)) = c k := by
  induction n with
  | zero => omega
  | succ n ih =>
    unfold sm
    simp only []
    by_cases h : k = n
    · subst h
      rw [ind_true rfl, sm_congr (g := fun _ => 0) (fun i hi => by rw [ind_false (by omega)]; omega), sm_zero]
      omega
    · rw [ih (by omega), ind_false h]
      omega
theorem C2 {n : Nat} {e : Nat → Sg} {t : Nat → Int} (hf : Figure n e) (hc : Closed n e t) {k : Nat} (hk : k < n) (hx : (e k).1.1 < (e k).2.1) :
    U n e t k ((e k).2.1 - 1) + t k = Bv n e t (e k).2 (bwd (e k)) := by
  have h0 := sm_pick n k hk t
  unfold U Bv
  rw [← h0, ← sm_add]
  have := hc.eq (F := fun i => ind (Ab (e k) (e i) ((e k).2.1 - 1)) + ind (k = i)) (G := fun i => Bc (e k).2 (bwd (e k)) (e i)) (phi2 (e k).2) fun i hi => by
    by_cases h : k = i
    · subst h
      rw [ind_true (p := k = k) rfl]
      exact c2_self hx (hf.lt k hk)
    · have hp := hf.apart k i hk hi h
      have hq := hf.apart i k hi hk (Ne.symm h)
      rw [ind_false h, Int.add_zero]
      by_cases g1 : (e i).1 = (e k).2
      · exact c2_start (hf.lt i hi) hx g1
      by_cases g2 : (e i).2 = (e k).2
      · exact c2_end hp hq (hf.lt k hk) (hf.lt i hi) hx g2
      exact c2_other hp hq (hf.lt k hk) (hf.lt i hi) hx g1 g2
  rw [← this]
  exact sm_congr fun i _ => by rw [Int.mul_add]
end Go.Proofs.YtlglfcdobbocnaaGreat

/-! Vertical pieces; the sum to the left of a dart is the same at both its ends; and on the next dart. -/
namespace Go.Proofs.YtlglfcdobbocnaaGreat
theorem c3_self {e : Sg} (le : ltP e.1 e.2) : Bc e.1 (fwd e) e - (Bc e.2 (bwd e) e - 1) = ind (e.1 = e.2) - ind (e.2 = e.2) + (ind (e.1.1 < e.2.1 ∧ e.1.2 ≤ e.2.2)) := by
  have h2 : e.1 ≠ e.2 := fun h => by rw [h] at le; exact ltP_irrefl _ le
  unfold Bc
  rw [pp_at_1, pp_at_2, ind_false (p := e.1 = e.2 ∧ _) (fun h => h2 h.1), ind_false (p := e.1 = e.2 ∧ _) (fun h => h2 h.1), ind_false (p := e.2 = e.1 ∧ _) (fun h => h2 h.1.symm), ind_true (p := e.2 = e.2 ∧ _) ⟨rfl, ang_irrefl _⟩, ind_true (p := e.1 = e.1 ∧ ¬ _) ⟨rfl, ang_irrefl _⟩, ind_false h2, ind_true (p := e.2 = e.2) rfl]
  rw [ind_congr (p := e.1 = e.1 ∧ e.1.1 < e.2.1 ∧ e.1.2 ≤ e.2.2) (q := e.1.1 < e.2.1 ∧ e.1.2 ≤ e.2.2) (by simp)]
  omega
theorem c3_A {e f : Sg} (hp : Apart e f) (hq : Apart f e) (le : ltP e.1 e.2) (lf : ltP f.1 f.2) (hx : e.1.1 = e.2.1) (h1 : f.1 = e.1) :
    Bc e.1 (fwd e) f - Bc e.2 (bwd e) f = ind (f.1 = e.2) - ind (f.2 = e.2) := by
  have t := tri_ff hp hq le lf h1.symm
  have hpp : ind (Pp e.1 f) = 0 := by rw [← h1]; exact pp_at_1 f
  have hcr : cr f.1 f.2 e.2 = (f.2.1 - f.1.1) * (e.2.2 - f.1.2) := by unfold cr; rw [← hx, h1]; grind
  have s0 := sgnc (f.2.1 - f.1.1) (e.2.2 - f.1.2)
  unfold Bc
  rw [hpp]
  unfold Pp
  rw [hcr]
  clear hpp hcr hp hq
  obtain ⟨⟨a1, a2⟩, b1, b2⟩ := e
  obtain ⟨c, d1, d2⟩ := f
  simp only [] at h1 hx
  subst h1
  subst hx
  unfold angLt low fwd bwd crs ltP at *
  simp only [Prod.mk.injEq, true_and, Int.sub_self, Int.zero_mul, Int.zero_sub] at *
  have s1 := sgnc (b2 - a2) (d1 - a1)
  have s2 := sgnc (a2 - b2) (d1 - a1)
  simp only [ind_ite]
  generalize (b2 - a2) * (d1 - a1) = X at *
  generalize (a2 - b2) * (d1 - a1) = Y at *
  generalize (d1 - a1) * (b2 - a2) = Z at *
  grind
theorem c3_B {e f : Sg} (le : ltP e.1 e.2) (lf : ltP f.1 f.2) (hx : e.1.1 = e.2.1) (h1 : f.2 = e.1) :
    Bc e.1 (fwd e) f - Bc e.2 (bwd e) f = ind (f.1 = e.2) - ind (f.2 = e.2) := by
  have hpp : ind (Pp e.1 f) = 0 := by rw [← h1]; exact pp_at_2 f
  unfold Bc
  rw [hpp]
  unfold Pp
  clear hpp
  obtain ⟨⟨a1, a2⟩, b1, b2⟩ := e
  obtain ⟨⟨c1, c2⟩, d⟩ := f
  simp only [] at h1 hx
  subst h1
  subst hx
  unfold angLt low fwd bwd crs ltP at *
  simp only [Prod.mk.injEq, true_and, Int.sub_self, Int.zero_mul, Int.zero_sub] at *
  have s1 := sgnc (b2 - a2) (c1 - a1)
  simp only [ind_ite]
  generalize (b2 - a2) * (c1 - a1) = X at *
  grind
theorem c3_C {e f : Sg} (le : ltP e.1 e.2) (lf : ltP f.1 f.2) (hx : e.1.1 = e.2.1) (h1 : f.1 = e.2) :
    Bc e.1 (fwd e) f - Bc e.2 (bwd e) f = ind (f.1 = e.2) - ind (f.2 = e.2) := by
  have hpp : ind (Pp e.2 f) = 0 := by rw [← h1]; exact pp_at_1 f
  have hcr : cr f.1 f.2 e.1 = (f.2.1 - f.1.1) * (e.1.2 - f.1.2) := by unfold cr; rw [hx, h1]; grind
  have s0 := sgnc (f.2.1 - f.1.1) (e.1.2 - f.1.2)
  have n1 : f.1 ≠ e.1 := fun h => by rw [← h1, h] at le; exact ltP_irrefl _ le
  have n2 : f.2 ≠ e.1 := fun h => by rw [h1, h] at lf; exact ltP_asymm lf le
  have n3 : f.2 ≠ e.2 := fun h => by rw [h1, h] at lf; exact ltP_irrefl _ lf
  unfold Bc
  rw [hpp, ind_false (p := f.1 = e.1 ∧ _) (fun h => n1 h.1), ind_false (p := f.1 = e.1 ∧ _) (fun h => n1 h.1), ind_false (p := f.2 = e.1 ∧ _) (fun h => n2 h.1), ind_false (p := f.2 = e.2 ∧ _) (fun h => n3 h.1), ind_false (p := f.2 = e.2) n3]
  unfold Pp
  rw [hcr]
  clear hpp hcr n1 n2 n3
  obtain ⟨⟨a1, a2⟩, b1, b2⟩ := e
  obtain ⟨c, d1, d2⟩ := f
  simp only [] at h1 hx
  subst h1
  subst hx
  unfold angLt low fwd bwd crs ltP at *
  simp only [true_and, Int.sub_self, Int.zero_mul, Int.zero_sub, Int.sub_zero] at *
  have s2 := sgnc (a2 - b2) (d1 - a1)
  simp only [ind_ite]
  generalize (a2 - b2) * (d1 - a1) = Y at *
  generalize (d1 - a1) * (a2 - b2) = Z at *
  grind
theorem c3_D {e f : Sg} (le : ltP e.1 e.2) (lf : ltP f.1 f.2) (hx : e.1.1 = e.2.1) (h1 : f.2 = e.2) (h2 : f.1 ≠ e.1) :
    Bc e.1 (fwd e) f - Bc e.2 (bwd e) f = ind (f.1 = e.2) - ind (f.2 = e.2) := by
  have hpp : ind (Pp e.2 f) = 0 := by rw [← h1]; exact pp_at_2 f
  have n1 : f.1 ≠ e.2 := fun h => by rw [h1, h] at lf; exact ltP_irrefl _ lf
  have n2 : f.2 ≠ e.1 := fun h => by rw [← h1, h] at le; exact ltP_irrefl _ le
  unfold Bc
  rw [hpp, ind_false (p := f.1 = e.1 ∧ _) (fun h => h2 h.1), ind_false (p := f.1 = e.1 ∧ _) (fun h => h2 h.1), ind_false (p := f.2 = e.1 ∧ _) (fun h => n2 h.1), ind_false (p := f.1 = e.2 ∧ _) (fun h => n1 h.1), ind_false (p := f.1 = e.2 ∧ _) (fun h => n1 h.1), ind_false (p := f.1 = e.2) n1]
  unfold Pp
  clear hpp n1 n2 h2
  obtain ⟨⟨a1, a2⟩, b1, b2⟩ := e
  obtain ⟨⟨c1, c2⟩, d⟩ := f
  simp only [] at h1 hx
  subst h1
  subst hx
  unfold angLt low bwd crs ltP at *
  simp only [true_and, Int.sub_self, Int.zero_mul, Int.zero_sub, Int.sub_zero] at *
  have s1 := sgnc (a2 - b2) (c1 - a1)
  simp only [ind_ite]
  generalize (a2 - b2) * (c1 - a1) = X at *
  grind
theorem c3_E {e f : Sg} (hp : Apart e f) (hq : Apart f e) (le : ltP e.1 e.2) (lf : ltP f.1 f.2) (hx : e.1.1 = e.2.1) (h1 : f.1 ≠ e.1) (h2 : f.2 ≠ e.1) (h3 : f.1 ≠ e.2) (h4 : f.2 ≠ e.2) :
    Bc e.1 (fwd e) f - Bc e.2 (bwd e) f = ind (f.1 = e.2) - ind (f.2 = e.2) := by
  unfold Bc
  rw [ind_false (p := f.1 = e.1 ∧ _) (fun h => h1 h.1), ind_false (p := f.1 = e.1 ∧ _) (fun h => h1 h.1), ind_false (p := f.2 = e.1 ∧ _) (fun h => h2 h.1), ind_false (p := f.1 = e.2 ∧ _) (fun h => h3 h.1), ind_false (p := f.1 = e.2 ∧ _) (fun h => h3 h.1), ind_false (p := f.2 = e.2 ∧ _) (fun h => h4 h.1), ind_false h3, ind_false h4]
  have key : Pp e.1 f ↔ Pp e.2 f := by
    unfold Pp
    rw [← hx]
    by_cases g : f.1.1 ≤ e.1.1 ∧ e.1.1 < f.2.1
    · by_cases g1 : f.1.1 < e.1.1
      · have := n3 hq le hx g1 g.2
        unfold Same at this
        omega
      · have g2 : f.1.1 = e.1.1 := by omega
        have c1 : cr f.1 f.2 e.1 = (f.2.1 - f.1.1) * (e.1.2 - f.1.2) := by unfold cr; rw [g2]; grind
        have c2 : cr f.1 f.2 e.2 = (f.2.1 - f.1.1) * (e.2.2 - f.1.2) := by unfold cr; rw [← hx, g2]; grind
        have m1 := mulp (a := f.2.1 - f.1.1) (x := e.1.2 - f.1.2) (by omega)
        have m2 := mulp (a := f.2.1 - f.1.1) (x := e.2.2 - f.1.2) (by omega)
        have d1 := dec_ne h1
        have d3 := dec_ne h3
        have hn : ¬ (e.1.2 < f.1.2 ∧ f.1.2 < e.2.2) := fun h => by
          refine n2_aux hp le lf (z := f.1) (o := f.2) (.inl ⟨rfl, rfl⟩) ?_ (.inr ⟨g2.symm, h.1⟩) (.inr ⟨g2.trans hx, h.2⟩)
          unfold cr
          rw [← hx, g2]
          simp
        unfold ltP at le
        omega
    · constructor <;> (intro h; omega)
  rw [ind_congr key]
  omega
theorem C3 {n : Nat} {e : Nat → Sg} {t : Nat → Int} (hf : Figure n e) (hc : Closed n e t) {k : Nat} (hk : k < n) (hx : (e k).1.1 = (e k).2.1) :
    Bv n e t (e k).1 (fwd (e k)) + t k = Bv n e t (e k).2 (bwd (e k)) := by
  have h0 := sm_pick n k hk t
  unfold Bv
  rw [← h0, ← sm_add]
  have := hc.eq (F := fun i => Bc (e k).1 (fwd (e k)) (e i) + ind (k = i)) (G := fun i => Bc (e k).2 (bwd (e k)) (e i)) (fun z => ind (z = (e k).2)) fun i hi => by
    have le := hf.lt k hk
    by_cases h : k = i
    · subst h
      rw [ind_true (p := k = k) rfl]
      have := c3_self le
      rw [ind_false (p := _ ∧ _) (by omega)] at this
      omega
    · have hp := hf.apart k i hk hi h
      have hq := hf.apart i k hi hk (Ne.symm h)
      have lf := hf.lt i hi
      rw [ind_false h, Int.add_zero]
      by_cases g1 : (e i).1 = (e k).1
      · exact c3_A hp hq le lf hx g1
      by_cases g2 : (e i).2 = (e k).1
      · exact c3_B le lf hx g2
      by_cases g3 : (e i).1 = (e k).2
      · exact c3_C le lf hx g3
      by_cases g4 : (e i).2 = (e k).2
      · exact c3_D le lf hx g4 g1
      exact c3_E hp hq le lf hx g1 g2 g3 g4
  rw [← this]
  exact sm_congr fun i _ => by rw [Int.mul_add]

/-- .. at every column of a piece. -/
theorem U_all {n : Nat} {e : Nat → Sg} {t : Nat → Int} (hf : Figure n e) (hc : Closed n e t) {k : Nat} (hk : k < n) (m : Nat) (h : (e k).1.1 + m < (e k).2.1) : U n e t k ((e k).1.1 + m) = U n e t k (e k).1.1 := by
  induction m with
  | zero => simp
  | succ m ih =>
    rw [← ih (by omega), ← U_step hf hc hk (x := (e k).1.1 + (m + 1 : Nat)) (by omega) h]
    congr 1
    omega
/-- To the right of a piece there is as much as to the left, and its weight. -/
theorem L1 {n : Nat} {e : Nat → Sg} {t : Nat → Int} (hf : Figure n e) (hc : Closed n e t) {k : Nat} (hk : k < n) :
    Bv n e t (e k).2 (bwd (e k)) = Bv n e t (e k).1 (fwd (e k)) + t k := by
  by_cases hx : (e k).1.1 = (e k).2.1
  · exact (C3 hf hc hk hx).symm
  · have h1 : (e k).1.1 < (e k).2.1 := by have := hf.lt k hk; unfold ltP at this; omega
    rw [← C1 hf hc hk h1, ← C2 hf hc hk h1]
    have := U_all hf hc hk ((e k).2.1 - 1 - (e k).1.1).toNat (by omega)
    rw [← this]
    congr 2
    omega

/-- The point from which a dart leads, and the other one; its direction. -/
def dFrom (e : Nat → Sg) (d : Nat) : Pt := if d % 2 = 0 then (e (d / 2)).1 else (e (d / 2)).2
def dTo (e : Nat → Sg) (d : Nat) : Pt := if d % 2 = 0 then (e (d / 2)).2 else (e (d / 2)).1
def dDir (e : Nat → Sg) (d : Nat) : Pt := if d % 2 = 0 then fwd (e (d / 2)) else bwd (e (d / 2))
/-- The other dart of its piece. -/
def dRev (d : Nat) : Nat := if d % 2 = 0 then d + 1 else d - 1
/-- What is to the left of a dart. -/
noncomputable def Sd (n : Nat) (e : Nat → Sg) (t : Nat → Int) (d : Nat) : Int := Bv n e t (dFrom e d) (dDir e d)
theorem dRev_even (k : Nat) : dRev (2 * k) = 2 * k + 1 := by unfold dRev; rw [if_pos (by omega)]
theorem dRev_odd (k : Nat) : dRev (2 * k + 1) = 2 * k := by unfold dRev; rw [if_neg (by omega)]; omega
theorem Sd_even (n : Nat) (e : Nat → Sg) (t : Nat → Int) (k : Nat) : Sd n e t (2 * k) = Bv n e t (e k).1 (fwd (e k)) := by
  unfold Sd dFrom dDir
  rw [if_pos (by omega), if_pos (by omega), show 2 * k / 2 = k by omega]
theorem Sd_odd (n : Nat) (e : Nat → Sg) (t : Nat → Int) (k : Nat) : Sd n e t (2 * k + 1) = Bv n e t (e k).2 (bwd (e k)) := by
  unfold Sd dFrom dDir
  rw [if_neg (by omega), if_neg (by omega), show (2 * k + 1) / 2 = k by omega]
theorem Sd_rev {n : Nat} {e : Nat → Sg} {t : Nat → Int} (hf : Figure n e) (hc : Closed n e t) {k : Nat} (hk : k < n) : Sd n e t (2 * k + 1) = Sd n e t (2 * k) + t k := by
  rw [Sd_even, Sd_odd]
  exact L1 hf hc hk
/-- A dart k comes next before the dart r about their point, by the angle, going round. -/
def Pred (n : Nat) (e : Nat → Sg) (k r : Nat) : Prop :=
  (∀ j, j < 2 * n → dFrom e j = dFrom e r → (¬ angLt (dDir e k) (dDir e j) ↔ angLt (dDir e j) (dDir e r))) ∨
  (∀ j, j < 2 * n → dFrom e j = dFrom e r → ¬ angLt (dDir e k) (dDir e j) ∧ ¬ angLt (dDir e j) (dDir e r))
theorem dart_tri {n : Nat} {e : Nat → Sg} (hf : Figure n e) {i j : Nat} (hi : i < 2 * n) (hj : j < 2 * n) (hn : i ≠ j) (h : dFrom e i = dFrom e j) : angLt (dDir e i) (dDir e j) ∨ angLt (dDir e j) (dDir e i) := by
  have li := hf.lt (i / 2) (by omega)
  have lj := hf.lt (j / 2) (by omega)
  unfold dFrom at h
  unfold dDir
  by_cases a : i % 2 = 0 <;> by_cases b : j % 2 = 0 <;> simp only [a, b, if_true, if_false] at h ⊢
  · have hne : i / 2 ≠ j / 2 := by omega
    exact tri_ff (hf.apart _ _ (by omega) (by omega) hne) (hf.apart _ _ (by omega) (by omega) hne.symm) li lj h
  · exact tri_fb li lj
  · exact (tri_fb lj li).symm
  · have hne : i / 2 ≠ j / 2 := by omega
    exact tri_bb (hf.apart _ _ (by omega) (by omega) hne) (hf.apart _ _ (by omega) (by omega) hne.symm) li lj h
end Go.Proofs.YtlglfcdobbocnaaGreat

/-! The sum to the left of a dart is the same on the next dart; faces; the top. -/
namespace Go.Proofs.YtlglfcdobbocnaaGreat
theorem near_one {n : Nat} {e : Nat → Sg} (hf : Figure n e) {k r j : Nat} (hr : r < 2 * n) (hj : j < 2 * n) (hv : dFrom e j = dFrom e r)
    (hp : ¬ angLt (dDir e k) (dDir e j) ↔ angLt (dDir e j) (dDir e r)) :
    ind (¬ angLt (dDir e k) (dDir e j)) - ind (¬ angLt (dDir e r) (dDir e j)) = - ind (r = j) := by
  rw [ind_congr hp]
  by_cases h : r = j
  · subst h
    rw [ind_false (ang_irrefl _), ind_true (ang_irrefl _), ind_true rfl]
    omega
  · rw [ind_false (p := r = j) h]
    rcases dart_tri hf hr hj h hv.symm with g | g
    · rw [ind_false (ang_asymm g), ind_false (p := ¬ _) (fun k => k g)]
      omega
    · rw [ind_true g, ind_true (ang_asymm g)]
      omega
theorem near_two {n : Nat} {e : Nat → Sg} (hf : Figure n e) {k r j : Nat} (hr : r < 2 * n) (hj : j < 2 * n) (hv : dFrom e j = dFrom e r)
    (hp : ¬ angLt (dDir e k) (dDir e j) ∧ ¬ angLt (dDir e j) (dDir e r)) :
    ind (¬ angLt (dDir e k) (dDir e j)) - ind (¬ angLt (dDir e r) (dDir e j)) = 1 - ind (r = j) := by
  rw [ind_true hp.1]
  by_cases h : r = j
  · subst h
    rw [ind_true (ang_irrefl _), ind_true rfl]
  · rw [ind_false (p := r = j) h]
    rcases dart_tri hf hr hj h hv.symm with g | g
    · rw [ind_false (p := ¬ _) (fun k => k g)]
    · exact absurd g hp.2
theorem dFrom_even (e : Nat → Sg) (i : Nat) : dFrom e (2 * i) = (e i).1 := by unfold dFrom; rw [if_pos (by omega), show 2 * i / 2 = i by omega]
theorem dFrom_odd (e : Nat → Sg) (i : Nat) : dFrom e (2 * i + 1) = (e i).2 := by unfold dFrom; rw [if_neg (by omega), show (2 * i + 1) / 2 = i by omega]
theorem dTo_even (e : Nat → Sg) (i : Nat) : dTo e (2 * i) = (e i).2 := by unfold dTo; rw [if_pos (by omega), show 2 * i / 2 = i by omega]
theorem dTo_odd (e : Nat → Sg) (i : Nat) : dTo e (2 * i + 1) = (e i).1 := by unfold dTo; rw [if_neg (by omega), show (2 * i + 1) / 2 = i by omega]
theorem dDir_even (e : Nat → Sg) (i : Nat) : dDir e (2 * i) = fwd (e i) := by unfold dDir; rw [if_pos (by omega), show 2 * i / 2 = i by omega]
theorem dDir_odd (e : Nat → Sg) (i : Nat) : dDir e (2 * i + 1) = bwd (e i) := by unfold dDir; rw [if_neg (by omega), show (2 * i + 1) / 2 = i by omega]
theorem ind_split (p q : Prop) : ind (p ∧ q) = ind p * ind q := by
  rcases ind_cases p with ⟨a, b⟩ | ⟨a, b⟩ <;> rcases ind_cases q with ⟨c, d⟩ | ⟨c, d⟩ <;> rw [b, d]
  · rw [ind_true ⟨a, c⟩]; rfl
  · rw [ind_false (fun h => c h.2)]; rfl
  · rw [ind_false (fun h => a h.1)]; rfl
  · rw [ind_false (fun h => a h.1)]; rfl
theorem mul_eq_if {p : Prop} {x y : Int} (h : p → x = y) : ind p * x = ind p * y := by
  rcases ind_cases p with ⟨a, b⟩ | ⟨a, b⟩ <;> rw [b]
  · rw [h a]
  · simp
/-- About a point: the dart before r has to its left what is to the right of r. -/
theorem near {n : Nat} {e : Nat → Sg} {t : Nat → Int} (hf : Figure n e) (hc : Closed n e t) {k r : Nat} (hr : r < 2 * n) (hv : dFrom e k = dFrom e r) (hp : Pred n e k r) :
    Sd n e t k + sm n (fun i => t i * (ind (r = 2 * i + 1) - ind (r = 2 * i))) = Sd n e t r := by
  unfold Sd Bv
  rw [← sm_add, hv]
  have hd : ∃ c : Int, ∀ i, i < n → Bc (dFrom e r) (dDir e k) (e i) + (ind (r = 2 * i + 1) - ind (r = 2 * i)) - Bc (dFrom e r) (dDir e r) (e i) = c * ind ((e i).1 = dFrom e r) - c * ind ((e i).2 = dFrom e r) := by
    have go : ∀ i, i < n → ∀ c : Int, (∀ j, j = 2 * i ∨ j = 2 * i + 1 → dFrom e j = dFrom e r → ind (¬ angLt (dDir e k) (dDir e j)) - ind (¬ angLt (dDir e r) (dDir e j)) = c - ind (r = j)) → Bc (dFrom e r) (dDir e k) (e i) + (ind (r = 2 * i + 1) - ind (r = 2 * i)) - Bc (dFrom e r) (dDir e r) (e i) = (-c) * ind ((e i).1 = dFrom e r) - (-c) * ind ((e i).2 = dFrom e r) := by
      intro i hi c h
      have h1 := h (2 * i) (.inl rfl)
      have h2 := h (2 * i + 1) (.inr rfl)
      rw [dFrom_even, dDir_even] at h1
      rw [dFrom_odd, dDir_odd] at h2
      have g1 := mul_eq_if h1
      have g2 := mul_eq_if h2
      have k1 : ind (r = 2 * i) = ind ((e i).1 = dFrom e r) * ind (r = 2 * i) := by
        by_cases g : r = 2 * i
        · rw [ind_true (p := (e i).1 = dFrom e r) (by rw [g, dFrom_even])]; simp
        · rw [ind_false g]; simp
      have k2 : ind (r = 2 * i + 1) = ind ((e i).2 = dFrom e r) * ind (r = 2 * i + 1) := by
        by_cases g : r = 2 * i + 1
        · rw [ind_true (p := (e i).2 = dFrom e r) (by rw [g, dFrom_odd])]; simp
        · rw [ind_false g]; simp
      unfold Bc
      rw [ind_split ((e i).1 = dFrom e r) (¬ angLt (dDir e k) _), ind_split ((e i).1 = dFrom e r) (¬ angLt (dDir e r) _), ind_split ((e i).2 = dFrom e r) (¬ angLt (dDir e k) _), ind_split ((e i).2 = dFrom e r) (¬ angLt (dDir e r) _)]
      rw [Int.mul_sub, Int.mul_sub] at g1 g2
      rw [Int.neg_mul, Int.neg_mul, Int.mul_comm c, Int.mul_comm c]
      omega
    rcases hp with hp | hp
    · exact ⟨_, fun i hi => go i hi 0 fun j hj hjv => by rw [near_one hf hr (by omega) hjv (hp j (by omega) hjv)]; omega⟩
    · exact ⟨_, fun i hi => go i hi 1 fun j hj hjv => near_two hf hr (by omega) hjv (hp j (by omega) hjv)⟩
  obtain ⟨c, hd⟩ := hd
  rw [← hc.eq (F := fun i => Bc (dFrom e r) (dDir e k) (e i) + (ind (r = 2 * i + 1) - ind (r = 2 * i))) (fun z => c * ind (z = dFrom e r)) hd]
  exact sm_congr fun i _ => by rw [Int.mul_add]
/-- The darts of a figure, and which one comes next behind each. -/
structure Web (n : Nat) (e : Nat → Sg) (nxt : Nat → Nat) : Prop where
  fig : Figure n e
  lt : ∀ d, d < 2 * n → nxt d < 2 * n
  on : ∀ d, d < 2 * n → dFrom e (nxt d) = dTo e d
  pred : ∀ d, d < 2 * n → Pred n e (nxt d) (dRev d)
  perm : ∀ f : Nat → Int, sm (2 * n) (fun d => f (nxt d)) = sm (2 * n) f
  conn : ∀ D : Nat → Int, (∀ d, d < 2 * n → D (nxt d) = D d) → (∀ d, d < 2 * n → D (dRev d) = D d) → ∀ d d', d < 2 * n → d' < 2 * n → D d = D d'
theorem dFrom_rev (e : Nat → Sg) (d : Nat) : dFrom e (dRev d) = dTo e d := by
  unfold dRev
  by_cases h : d % 2 = 0
  · rw [if_pos h]
    obtain ⟨k, rfl⟩ : ∃ k, d = 2 * k := ⟨d / 2, by omega⟩
    rw [dFrom_odd, dTo_even]
  · rw [if_neg h]
    obtain ⟨k, rfl⟩ : ∃ k, d = 2 * k + 1 := ⟨d / 2, by omega⟩
    rw [show 2 * k + 1 - 1 = 2 * k by omega, dFrom_even, dTo_odd]
theorem dRev_lt {n d : Nat} (h : d < 2 * n) : dRev d < 2 * n := by unfold dRev; split <;> omega
/-- The sum to the left is the same on the next dart. -/
theorem Web.step {n : Nat} {e : Nat → Sg} {nxt : Nat → Nat} (hw : Web n e nxt) {t : Nat → Int} (hc : Closed n e t) {d : Nat} (hd : d < 2 * n) : Sd n e t (nxt d) = Sd n e t d := by
  have h := near (t := t) hw.fig hc (dRev_lt hd) ((hw.on d hd).trans (dFrom_rev e d).symm) (hw.pred d hd)
  by_cases hp : d % 2 = 0
  · obtain ⟨k, rfl⟩ : ∃ k, d = 2 * k := ⟨d / 2, by omega⟩
    rw [dRev_even, Sd_rev hw.fig hc (by omega)] at h
    rw [sm_congr (g := fun i => t i * ind (k = i)) (fun i _ => by rw [ind_false (p := 2 * k + 1 = 2 * i) (by omega), ind_congr (p := 2 * k + 1 = 2 * i + 1) (q := k = i) (by omega), Int.sub_zero]), sm_pick n k (by omega) t] at h
    omega
  · obtain ⟨k, rfl⟩ : ∃ k, d = 2 * k + 1 := ⟨d / 2, by omega⟩
    rw [dRev_odd] at h
    rw [sm_congr (g := fun i => (- t i) * ind (k = i)) (fun i _ => by rw [ind_false (p := 2 * k = 2 * i + 1) (by omega), ind_congr (p := 2 * k = 2 * i) (q := k = i) (by omega), Int.zero_sub, Int.mul_neg, Int.neg_mul]), sm_pick n k (by omega) (fun i => - t i)] at h
    rw [Sd_rev hw.fig hc (by omega)]
    omega
theorem sm_two (n : Nat) (f : Nat → Int) : sm (2 * n) f = sm n (fun i => f (2 * i) + f (2 * i + 1)) := by
  induction n with
  | zero => rfl
  | succ n ih =>
    rw [show 2 * (n + 1) = 2 * n + 1 + 1 by omega]
    unfold sm
    rw [← ih]
    show sm (2 * n) f + f (2 * n) + f (2 * n + 1) = sm (2 * n) f + (f (2 * n) + f (2 * n + 1))
    omega
/-- The weights of the pieces about a set of darts. -/
def tau (c : Nat → Int) (i : Nat) : Int := c (2 * i + 1) - c (2 * i)
theorem Web.closed {n : Nat} {e : Nat → Sg} {nxt : Nat → Nat} (hw : Web n e nxt) {c : Nat → Int} (h : ∀ d, d < 2 * n → c (nxt d) = c d) : Closed n e (tau c) := by
  intro φ
  have h1 : sm (2 * n) (fun d => c d * φ (dFrom e d)) = sm (2 * n) (fun d => c d * φ (dTo e d)) := by
    rw [← hw.perm]
    refine sm_congr fun d hd => ?_
    rw [h d hd, hw.on d hd]
  rw [sm_two, sm_two] at h1
  have h2 : sm n (fun i => tau c i * (φ (e i).1 - φ (e i).2)) = sm n (fun i => (c (2 * i) * φ (dTo e (2 * i)) + c (2 * i + 1) * φ (dTo e (2 * i + 1))) - (c (2 * i) * φ (dFrom e (2 * i)) + c (2 * i + 1) * φ (dFrom e (2 * i + 1)))) := by
    refine sm_congr fun i _ => ?_
    unfold tau
    rw [dFrom_even, dFrom_odd, dTo_even, dTo_odd]
    grind
  rw [h2, sm_sub]
  omega
/-- To the left of a dart there is one more where it is of the set, throughout. -/
theorem Web.const {n : Nat} {e : Nat → Sg} {nxt : Nat → Nat} (hw : Web n e nxt) {c : Nat → Int} (h : ∀ d, d < 2 * n → c (nxt d) = c d) {d d' : Nat} (hd : d < 2 * n) (hd' : d' < 2 * n) :
    Sd n e (tau c) d - c d = Sd n e (tau c) d' - c d' := by
  have hc := hw.closed h
  refine hw.conn (fun d => Sd n e (tau c) d - c d) (fun d hd => ?_) (fun d hd => ?_) d d' hd hd'
  · show Sd n e (tau c) (nxt d) - c (nxt d) = Sd n e (tau c) d - c d
    rw [hw.step hc hd, h d hd]
  · show Sd n e (tau c) (dRev d) - c (dRev d) = Sd n e (tau c) d - c d
    have key : ∀ k, k < n → Sd n e (tau c) (2 * k + 1) - c (2 * k + 1) = Sd n e (tau c) (2 * k) - c (2 * k) := fun k hk => by
      rw [Sd_rev hw.fig hc hk]
      unfold tau
      omega
    by_cases hp : d % 2 = 0
    · obtain ⟨k, rfl⟩ : ∃ k, d = 2 * k := ⟨d / 2, by omega⟩
      rw [dRev_even, key k (by omega)]
    · obtain ⟨k, rfl⟩ : ∃ k, d = 2 * k + 1 := ⟨d / 2, by omega⟩
      rw [dRev_odd, key k (by omega)]
end Go.Proofs.YtlglfcdobbocnaaGreat

/-! Heights over a column; the top piece; the pieces above a point; areas. -/
namespace Go.Proofs.YtlglfcdobbocnaaGreat
/-- The product of the widths. -/
def wid (f : Sg) : Int := if f.1.1 < f.2.1 then f.2.1 - f.1.1 else 1
theorem wid_pos (f : Sg) : 0 < wid f := by unfold wid; split <;> omega
def prodW : Nat → (Nat → Sg) → Int
  | 0, _ => 1
  | n + 1, e => prodW n e * wid (e n)
theorem prodW_pos (n : Nat) (e : Nat → Sg) : 0 < prodW n e := by
  induction n with
  | zero => exact Int.zero_lt_one
  | succ n ih => exact Int.mul_pos ih (wid_pos _)
theorem prodW_dvd {n : Nat} {e : Nat → Sg} {i : Nat} (hi : i < n) : wid (e i) ∣ prodW n e := by
  induction n with
  | zero => omega
  | succ n ih =>
    unfold prodW
    by_cases h : i = n
    · subst h; exact Int.dvd_mul_left _ _
    · exact Int.dvd_trans (ih (by omega)) (Int.dvd_mul_right _ _)
/-- The factor that brings a height to the common width. -/
def fac (n : Nat) (e : Nat → Sg) (i : Nat) : Int := prodW n e / wid (e i)
theorem fac_mul {n : Nat} {e : Nat → Sg} {i : Nat} (hi : i < n) : wid (e i) * fac n e i = prodW n e := Int.mul_ediv_cancel' (prodW_dvd hi)
theorem fac_pos {n : Nat} {e : Nat → Sg} {i : Nat} (hi : i < n) : 0 < fac n e i := by
  have h := fac_mul (e := e) hi
  have := prodW_pos n e
  exact (mulp (wid_pos (e i))).1.1 (by omega)
/-- Twice the height half a unit to the right of x, times the piece's width. -/
def hgt (f : Sg) (x : Int) : Int := 2 * f.1.2 * (f.2.1 - f.1.1) + (f.2.2 - f.1.2) * (2 * x + 1 - 2 * f.1.1)
def hh (n : Nat) (e : Nat → Sg) (x : Int) (i : Nat) : Int := hgt (e i) x * fac n e i
theorem gap_hgt (a f : Sg) (x : Int) : gap a f x + gap a f (x + 1) = hgt f x * (a.2.1 - a.1.1) - hgt a x * (f.2.1 - f.1.1) := by unfold gap hgt; grind
/-- A piece lies over the column of x. -/
def Spans (f : Sg) (x : Int) : Prop := f.1.1 ≤ x ∧ x < f.2.1
instance (f : Sg) (x : Int) : Decidable (Spans f x) := by unfold Spans; infer_instance
theorem wid_of {f : Sg} {x : Int} (h : Spans f x) : wid f = f.2.1 - f.1.1 := by unfold wid Spans at *; rw [if_pos (by omega)]
theorem ab_hh {n : Nat} {e : Nat → Sg} {x : Int} {i j : Nat} (hi : i < n) (hj : j < n) (si : Spans (e i) x) (sj : Spans (e j) x) :
    0 < gap (e i) (e j) x + gap (e i) (e j) (x + 1) ↔ hh n e x i < hh n e x j := by
  rw [gap_hgt, ← wid_of si, ← wid_of sj]
  unfold hh
  have f1 := fac_mul (e := e) hi
  have f2 := fac_mul (e := e) hj
  have p1 := fac_pos (e := e) hi
  have p2 := fac_pos (e := e) hj
  have pD := prodW_pos n e
  have m := mulp (a := fac n e i * fac n e j) (x := hgt (e j) x * wid (e i) - hgt (e i) x * wid (e j)) (Int.mul_pos p1 p2)
  have e1 : fac n e i * fac n e j * (hgt (e j) x * wid (e i) - hgt (e i) x * wid (e j)) = prodW n e * (hgt (e j) x * fac n e j - hgt (e i) x * fac n e i) := by
    rw [show fac n e i * fac n e j * (hgt (e j) x * wid (e i) - hgt (e i) x * wid (e j)) = (wid (e i) * fac n e i) * (hgt (e j) x * fac n e j) - (wid (e j) * fac n e j) * (hgt (e i) x * fac n e i) by grind, f1, f2, Int.mul_sub]
  have m2 := mulp (a := prodW n e) (x := hgt (e j) x * fac n e j - hgt (e i) x * fac n e i) pD
  rw [e1] at m
  omega
theorem ab_iff {n : Nat} {e : Nat → Sg} {x : Int} {i j : Nat} (hi : i < n) (hj : j < n) (si : Spans (e i) x) : Ab (e i) (e j) x ↔ Spans (e j) x ∧ hh n e x i < hh n e x j := by
  unfold Ab
  constructor
  · intro h
    have sj : Spans (e j) x := ⟨h.1, h.2.1⟩
    exact ⟨sj, (ab_hh hi hj si sj).1 h.2.2⟩
  · intro h
    exact ⟨h.1.1, h.1.2, (ab_hh hi hj si h.1).2 h.2⟩
theorem hh_ne {n : Nat} {e : Nat → Sg} (hf : Figure n e) {x : Int} {i j : Nat} (hi : i < n) (hj : j < n) (si : Spans (e i) x) (sj : Spans (e j) x) (hn : i ≠ j) : hh n e x i ≠ hh n e x j := by
  have a := ab_hh hi hj si sj
  have b := ab_hh hj hi sj si
  rw [gap_neg (e i) (e j), gap_neg (e i) (e j)] at b
  unfold Spans at si sj
  have n1 := n1_up (hf.apart i j hi hj hn) (x := x) (y := x + 1) ⟨by omega, by omega, by omega, by omega⟩ (by omega)
  omega
/-- Of those with a property, one has the least value. -/
theorem least_of {p : Nat → Prop} (h : Nat → Int) : ∀ n : Nat, (∃ i, i < n ∧ p i) → ∃ i, i < n ∧ p i ∧ ∀ j, j < n → p j → h i ≤ h j := by
  intro n
  induction n with
  | zero => rintro ⟨i, hi, -⟩; omega
  | succ n ih =>
    rintro ⟨i, hi, pi⟩
    by_cases hx : ∃ i, i < n ∧ p i
    · obtain ⟨k, hk, pk, hl⟩ := ih hx
      by_cases pn : p n
      · by_cases g : h k ≤ h n
        · refine ⟨k, by omega, pk, fun j hj pj => ?_⟩
          by_cases e : j = n
          · subst e; exact g
          · exact hl j (by omega) pj
        · refine ⟨n, by omega, pn, fun j hj pj => ?_⟩
          by_cases e : j = n
          · subst e; exact Int.le_refl _
          · have := hl j (by omega) pj
            omega
      · refine ⟨k, by omega, pk, fun j hj pj => ?_⟩
        by_cases e : j = n
        · subst e; exact absurd pj pn
        · exact hl j (by omega) pj
    · refine ⟨i, hi, pi, fun j hj pj => ?_⟩
      have e1 : i = n := by
        by_cases e : i = n
        · exact e
        · exact absurd ⟨i, by omega, pi⟩ hx
      have e2 : j = n := by
        by_cases e : j = n
        · exact e
        · exact absurd ⟨j, by omega, pj⟩ hx
      rw [e1, e2]
      exact Int.le_refl _
/-- The piece on top of a column has nothing above it, whatever the weights. -/
theorem top_of {n : Nat} {e : Nat → Sg} (hf : Figure n e) {k : Nat} (hk : k < n) {x : Int} (hs : Spans (e k) x) : ∃ d, d < 2 * n ∧ ∀ t, Closed n e t → Sd n e t d = 0 := by
  obtain ⟨i, hi, si, hl⟩ := least_of (p := fun i => Spans (e i) x) (fun i => - hh n e x i) n ⟨k, hk, hs⟩
  refine ⟨2 * i, by omega, fun t hc => ?_⟩
  have hx : (e i).1.1 < (e i).2.1 := by unfold Spans at si; omega
  rw [Sd_even, ← C1 hf hc hi hx, ← U_all hf hc hi (x - (e i).1.1).toNat (by unfold Spans at si; omega), show (e i).1.1 + ((x - (e i).1.1).toNat : Int) = x by unfold Spans at si; omega]
  unfold U
  rw [sm_congr (g := fun _ => 0) (fun j hj => by
    rw [ind_false (fun h => by
      have := (ab_iff hi hj si).1 h
      have : - hh n e x i ≤ - hh n e x j := hl j hj this.1
      omega), Int.mul_zero]), sm_zero]
/-- The sum over what lies above a point. -/
noncomputable def Vp (n : Nat) (e : Nat → Sg) (t : Nat → Int) (p : Pt) : Int := sm n (fun i => t i * ind (Pp p (e i)))
theorem Sd_at {n : Nat} {e : Nat → Sg} {t : Nat → Int} (hf : Figure n e) (hc : Closed n e t) {k : Nat} (hk : k < n) {x : Int} (hs : Spans (e k) x) : Sd n e t (2 * k + 1) = U n e t k x + t k := by
  have hx : (e k).1.1 < (e k).2.1 := by unfold Spans at hs; omega
  rw [Sd_rev hf hc hk, Sd_even, ← C1 hf hc hk hx, ← U_all hf hc hk (x - (e k).1.1).toNat (by unfold Spans at hs; omega), show (e k).1.1 + ((x - (e k).1.1).toNat : Int) = x by unfold Spans at hs; omega]
theorem gap_cr (a f : Sg) (p : Pt) : (a.2.1 - a.1.1) * cr f.1 f.2 p = (f.2.1 - f.1.1) * cr a.1 a.2 p - gap a f p.1 := by unfold cr gap; grind
/-- The first piece above a point: below it is what is at the point. -/
theorem V_at {n : Nat} {e : Nat → Sg} {t : Nat → Int} (hf : Figure n e) (hc : Closed n e t) {k : Nat} (hk : k < n) {p : Pt} (hp : Pp p (e k)) (hl : ∀ j, j < n → Pp p (e j) → hh n e p.1 k ≤ hh n e p.1 j) : Vp n e t p = Sd n e t (2 * k + 1) := by
  have hs : Spans (e k) p.1 := ⟨hp.1, hp.2.1⟩
  rw [Sd_at hf hc hk hs]
  unfold U Vp
  have h0 := sm_pick n k hk t
  rw [← h0, ← sm_add]
  refine sm_congr fun i hi => ?_
  rw [← Int.mul_add]
  congr 1
  by_cases h : k = i
  · subst h
    rw [ind_true hp, ind_false (not_ab_self _ _), ind_true rfl]
    rfl
  · rw [ind_false h, Int.add_zero]
    refine ind_congr ⟨fun g => ?_, fun g => ?_⟩
    · refine (ab_iff hk hi hs).2 ⟨⟨g.1, g.2.1⟩, ?_⟩
      have := hl i hi g
      have := hh_ne hf hk hi hs ⟨g.1, g.2.1⟩ h
      omega
    · refine ⟨g.1, g.2.1, ?_⟩
      have h1 := g.2.2
      have g1 := g.1
      have g2 := g.2.1
      unfold Spans at hs
      have n1 := n1_up (hf.apart k i hk hi h) (x := p.1) (y := p.1 + 1) ⟨by omega, by omega, by omega, by omega⟩ (by omega)
      have e1 := gap_cr (e k) (e i) p
      have m1 := mulp (a := (e k).2.1 - (e k).1.1) (x := cr (e i).1 (e i).2 p) (by omega)
      have m2 := mulp (a := (e i).2.1 - (e i).1.1) (x := cr (e k).1 (e k).2 p) (by omega)
      have := hp.2.2
      omega
theorem V_none {n : Nat} {e : Nat → Sg} {t : Nat → Int} {p : Pt} (h : ∀ j, j < n → ¬ Pp p (e j)) : Vp n e t p = 0 := by
  unfold Vp
  rw [sm_congr (g := fun _ => 0) (fun j hj => by rw [ind_false (h j hj), Int.mul_zero]), sm_zero]
/-- What lies in a column above a height. -/
theorem level {n : Nat} {e : Nat → Sg} {t : Nat → Int} (hf : Figure n e) (hc : Closed n e t) (h0 : ∀ d, d < 2 * n → Sd n e t d ≤ 0) (x c : Int) : sm n (fun i => t i * ind (Spans (e i) x ∧ c < hh n e x i)) ≤ 0 := by
  by_cases hx : ∃ i, i < n ∧ (Spans (e i) x ∧ c < hh n e x i)
  · obtain ⟨k, hk, ⟨hs, hck⟩, hl⟩ := least_of (hh n e x) n hx
    have e1 : sm n (fun i => t i * ind (Spans (e i) x ∧ c < hh n e x i)) = Sd n e t (2 * k + 1) := by
      rw [Sd_at hf hc hk hs]
      unfold U
      have h0 := sm_pick n k hk t
      rw [← h0, ← sm_add]
      refine sm_congr fun i hi => ?_
      rw [← Int.mul_add]
      congr 1
      by_cases h : k = i
      · subst h
        rw [ind_true ⟨hs, hck⟩, ind_false (not_ab_self _ _), ind_true rfl]
        rfl
      · rw [ind_false h, Int.add_zero]
        refine ind_congr ⟨fun g => (ab_iff hk hi hs).2 ⟨g.1, ?_⟩, fun g => ?_⟩
        · have := hl i hi g
          have := hh_ne hf hk hi hs g.1 h
          omega
        · have g := (ab_iff hk hi hs).1 g
          exact ⟨g.1, by omega⟩
    rw [e1]
    exact h0 _ (by omega)
  · rw [sm_congr (g := fun _ => 0) (fun j hj => by rw [ind_false (fun h => hx ⟨j, hj, h⟩), Int.mul_zero]), sm_zero]
    exact Int.le_refl _
theorem sm_swap (n m : Nat) (f : Nat → Nat → Int) : sm n (fun i => sm m (fun j => f i j)) = sm m (fun j => sm n (fun i => f i j)) := by
  induction n with
  | zero => simp only [sm]; rw [sm_zero]
  | succ n ih => simp only [sm]; rw [ih, sm_add]
theorem sm_le {n : Nat} {f : Nat → Int} (h : ∀ i, i < n → f i ≤ 0) : sm n f ≤ 0 := by
  induction n with
  | zero => exact Int.le_refl _
  | succ n ih =>
    unfold sm
    have := ih fun i hi => h i (by omega)
    have := h n (by omega)
    omega
theorem layers (m : Nat) (z : Int) (h1 : 0 ≤ z) : sm m (fun t => ind ((t : Int) < z)) = min (m : Int) z := by
  induction m with
  | zero => unfold sm; omega
  | succ m ih =>
    simp only [sm]
    rw [ih]
    by_cases h : (m : Int) < z
    · rw [ind_true h]; omega
    · rw [ind_false h]; omega
theorem bound_of (n : Nat) (f : Nat → Int) : ∃ K : Nat, ∀ i, i < n → - (K : Int) ≤ f i ∧ f i ≤ K := by
  induction n with
  | zero => exact ⟨0, fun i hi => by omega⟩
  | succ n ih =>
    obtain ⟨K, hK⟩ := ih
    refine ⟨K + (f n).natAbs, fun i hi => ?_⟩
    by_cases h : i = n
    · subst h; omega
    · have := hK i (by omega)
      omega
/-- The sum of the heights over a column. -/
theorem column_le {n : Nat} {e : Nat → Sg} {t : Nat → Int} (hf : Figure n e) (hc : Closed n e t) (h0 : ∀ d, d < 2 * n → Sd n e t d ≤ 0) (x : Int) : sm n (fun i => t i * (ind (Spans (e i) x) * hh n e x i)) ≤ 0 := by
  obtain ⟨K, hK⟩ := bound_of n (hh n e x)
  have b : sm n (fun i => t i * ind (Spans (e i) x)) = 0 := by
    have := hc fun z => ind (z.1 ≤ x)
    rw [← this]
    refine sm_congr fun i hi => ?_
    congr 1
    have := hf.lt i hi
    unfold ltP at this
    unfold Spans
    simp only [ind_ite]
    grind
  have e1 : sm n (fun i => t i * (ind (Spans (e i) x) * hh n e x i)) = sm (2 * K) (fun s => sm n (fun i => t i * ind (Spans (e i) x ∧ (s : Int) - K < hh n e x i))) := by
    rw [← sm_swap]
    have e2 : sm n (fun i => t i * (ind (Spans (e i) x) * hh n e x i)) = sm n (fun i => t i * (ind (Spans (e i) x) * hh n e x i)) + K * sm n (fun i => t i * ind (Spans (e i) x)) := by rw [b]; omega
    rw [e2, ← sm_mul, ← sm_add]
    refine sm_congr fun i hi => ?_
    have hKi := hK i hi
    rw [sm_mul]
    rw [sm_congr (g := fun s => ind (Spans (e i) x) * ind ((s : Int) < hh n e x i + K)) (fun s _ => by rw [ind_split, ind_congr (p := (s : Int) - K < hh n e x i) (q := (s : Int) < hh n e x i + K) (by omega)]), sm_mul, layers _ _ (by omega)]
    rw [show min (((2 * K : Nat)) : Int) (hh n e x i + K) = hh n e x i + K by omega]
    grind
  rw [e1]
  exact sm_le fun s _ => level hf hc h0 x _
theorem sum_hgt (f : Sg) (h0 : 0 ≤ f.1.1) (h1 : f.1.1 ≤ f.2.1) (m : Nat) : sm m (fun x => ind (Spans f x) * hgt f x) = 2 * f.1.2 * (f.2.1 - f.1.1) * (max f.1.1 (min m f.2.1) - f.1.1) + (f.2.2 - f.1.2) * ((max f.1.1 (min m f.2.1) - f.1.1) * (max f.1.1 (min m f.2.1) - f.1.1)) := by
  induction m with
  | zero =>
    rw [show max f.1.1 (min ((0 : Nat) : Int) f.2.1) = f.1.1 by omega]
    simp [sm]
  | succ m ih =>
    simp only [sm]
    rw [ih]
    unfold Spans
    by_cases g : f.1.1 ≤ m ∧ (m : Int) < f.2.1
    · rw [ind_true g, show max f.1.1 (min (m : Int) f.2.1) = m by omega, show max f.1.1 (min ((m + 1 : Nat) : Int) f.2.1) = m + 1 by omega]
      unfold hgt
      grind
    · rw [ind_false g, show max f.1.1 (min ((m + 1 : Nat) : Int) f.2.1) = max f.1.1 (min (m : Int) f.2.1) by omega]
      omega
/-- Twice the area under a piece, doubled. -/
def under (f : Sg) : Int := (f.2.1 - f.1.1) * (f.1.2 + f.2.2)
theorem sum_hh {n : Nat} {e : Nat → Sg} (hf : Figure n e) {i : Nat} (hi : i < n) (M : Nat) (h0 : 0 ≤ (e i).1.1) (h1 : (e i).2.1 ≤ M) : sm M (fun x => ind (Spans (e i) x) * hh n e x i) = prodW n e * under (e i) := by
  have hl : (e i).1.1 ≤ (e i).2.1 := by have := hf.lt i hi; unfold ltP at this; omega
  unfold hh
  rw [sm_congr (g := fun x : Nat => fac n e i * (ind (Spans (e i) x) * hgt (e i) x)) (fun x _ => by grind), sm_mul, sum_hgt _ h0 hl, show max (e i).1.1 (min (M : Int) (e i).2.1) = (e i).2.1 by omega]
  have h := fac_mul (e := e) hi
  unfold under
  by_cases g : (e i).1.1 < (e i).2.1
  · rw [← h, wid_of (f := e i) (x := (e i).1.1) ⟨Int.le_refl _, g⟩]
    grind
  · rw [show (e i).2.1 - (e i).1.1 = 0 by omega]
    simp
theorem area_le {n : Nat} {e : Nat → Sg} {t : Nat → Int} (hf : Figure n e) (hc : Closed n e t) (h0 : ∀ d, d < 2 * n → Sd n e t d ≤ 0) (M : Nat) (hM : ∀ i, i < n → 0 ≤ (e i).1.1 ∧ (e i).2.1 ≤ M) : sm n (fun i => t i * under (e i)) ≤ 0 := by
  have e1 : prodW n e * sm n (fun i => t i * under (e i)) = sm M (fun x => sm n (fun i => t i * (ind (Spans (e i) x) * hh n e x i))) := by
    rw [← sm_swap, ← sm_mul]
    refine sm_congr fun i hi => ?_
    rw [sm_mul, sum_hh hf hi M (hM i hi).1 (hM i hi).2]
    grind
  have h := sm_le (n := M) (f := fun x => sm n (fun i => t i * (ind (Spans (e i) x) * hh n e x i))) fun x _ => column_le hf hc h0 x
  have m := mulp (a := prodW n e) (x := sm n (fun i => t i * under (e i))) (prodW_pos n e)
  rw [← e1] at h
  omega
/-- Twice the part of an area that a way from a to b has. -/
def crossP (a b : Pt) : Int := a.1 * b.2 - b.1 * a.2
theorem area_eq {n : Nat} {e : Nat → Sg} {c : Nat → Int} (hc : Closed n e (tau c)) : sm (2 * n) (fun d => c d * crossP (dFrom e d) (dTo e d)) = sm n (fun i => tau c i * under (e i)) := by
  rw [sm_two]
  have h := hc fun z => z.1 * z.2
  have e1 : sm n (fun i => tau c i * under (e i)) = sm n (fun i => tau c i * under (e i)) + sm n (fun i => tau c i * ((e i).1.1 * (e i).1.2 - (e i).2.1 * (e i).2.2)) := by rw [h]; omega
  rw [e1, ← sm_add]
  refine sm_congr fun i _ => ?_
  rw [dFrom_even, dTo_even, dFrom_odd, dTo_odd]
  unfold tau under crossP
  grind
end Go.Proofs.YtlglfcdobbocnaaGreat

/-! The faces: what is at a point is in the face of the first piece above it; the same by crossings to the right. -/
namespace Go.Proofs.YtlglfcdobbocnaaGreat
/-- The faces of the darts. -/
structure Faced (n : Nat) (e : Nat → Sg) (nxt : Nat → Nat) (face : Nat → Int) : Prop where
  web : Web n e nxt
  inv : ∀ d, d < 2 * n → face (nxt d) = face d
  area : ∀ d, d < 2 * n → face d ≠ 0 → 0 < sm (2 * n) (fun d' => ind (face d' = face d) * crossP (dFrom e d') (dTo e d'))
  many : ∃ d, d < 2 * n ∧ face d ≠ 0
  box : ∃ M : Nat, ∀ i, i < n → 0 ≤ (e i).1.1 ∧ (e i).2.1 ≤ M
noncomputable def chi (face : Nat → Int) (g : Int) (d : Nat) : Int := ind (face d = g)
theorem Faced.closed {n : Nat} {e : Nat → Sg} {nxt : Nat → Nat} {face : Nat → Int} (h : Faced n e nxt face) (g : Int) : Closed n e (tau (chi face g)) :=
  h.web.closed fun d hd => by unfold chi; rw [h.inv d hd]
/-- The top's face is the outside. -/
theorem Faced.top {n : Nat} {e : Nat → Sg} {nxt : Nat → Nat} {face : Nat → Int} (h : Faced n e nxt face) : ∃ d0, d0 < 2 * n ∧ (∀ t, Closed n e t → Sd n e t d0 = 0) ∧ face d0 = 0 := by
  have hk : ∃ k, k < n ∧ (e k).1.1 < (e k).2.1 := by
    obtain ⟨d, hd, hg⟩ := h.many
    have ha := h.area d hd hg
    have hcl := h.closed (face d)
    have e1 := area_eq hcl
    unfold chi at e1
    rw [e1] at ha
    apply Classical.byContradiction
    intro hn
    rw [sm_congr (g := fun _ => 0) (fun i hi => by
      have := h.web.fig.lt i hi
      have : ¬ (e i).1.1 < (e i).2.1 := fun k => hn ⟨i, hi, k⟩
      unfold ltP at *
      unfold under
      rw [show (e i).2.1 - (e i).1.1 = 0 by omega]
      simp), sm_zero] at ha
    omega
  obtain ⟨k, hk, hx⟩ := hk
  obtain ⟨d0, hd0, ht⟩ := top_of h.web.fig hk (x := (e k).1.1) ⟨Int.le_refl _, hx⟩
  refine ⟨d0, hd0, ht, ?_⟩
  apply Classical.byContradiction
  intro hn
  have ha := h.area d0 hd0 hn
  have hcl := h.closed (face d0)
  have e1 := area_eq hcl
  obtain ⟨M, hM⟩ := h.box
  have hle := area_le h.web.fig hcl (fun d hd => by
    have := h.web.const (c := chi face (face d0)) (fun d hd => by unfold chi; rw [h.inv d hd]) hd hd0
    rw [ht _ hcl] at this
    have e2 : chi face (face d0) d0 = 1 := by unfold chi; exact ind_true rfl
    have e3 : chi face (face d0) d ≤ 1 := by unfold chi; rcases ind_cases (face d = face d0) with ⟨a, b⟩ | ⟨a, b⟩ <;> omega
    omega) M hM
  unfold chi at e1 hle
  omega
theorem Faced.sd {n : Nat} {e : Nat → Sg} {nxt : Nat → Nat} {face : Nat → Int} (h : Faced n e nxt face) (g : Int) {d : Nat} (hd : d < 2 * n) : Sd n e (tau (chi face g)) d = ind (face d = g) - ind (0 = g) := by
  obtain ⟨d0, hd0, ht, h0⟩ := h.top
  have := h.web.const (c := chi face g) (fun d hd => by unfold chi; rw [h.inv d hd]) hd hd0
  rw [ht _ (h.closed g)] at this
  unfold chi at this ⊢
  rw [h0] at this
  omega
/-- What 'at' answers: the face below the first piece above a point, or none. -/
def AtIs (n : Nat) (e : Nat → Sg) (face : Nat → Int) (p : Pt) (a : Int) : Prop :=
  (∃ k, k < n ∧ Pp p (e k) ∧ (∀ j, j < n → Pp p (e j) → hh n e p.1 k ≤ hh n e p.1 j) ∧ a = face (2 * k + 1)) ∨ (∀ j, j < n → ¬ Pp p (e j)) ∧ a = 0
theorem Faced.at {n : Nat} {e : Nat → Sg} {nxt : Nat → Nat} {face : Nat → Int} (h : Faced n e nxt face) (g : Int) {p : Pt} {a : Int} (ha : AtIs n e face p a) : Vp n e (tau (chi face g)) p = ind (a = g) - ind (0 = g) := by
  rcases ha with ⟨k, hk, hp, hl, rfl⟩ | ⟨hn, rfl⟩
  · rw [V_at h.web.fig (h.closed g) hk hp hl, h.sd g (by omega)]
  · rw [V_none hn]
    omega
/-- The crossings to the right, by their way up or down. -/
noncomputable def Hs (p : Pt) (f : Sg) : Int := ind (f.1.2 ≤ p.2 ∧ p.2 < f.2.2 ∧ 0 < cr f.1 f.2 p) - ind (f.2.2 ≤ p.2 ∧ p.2 < f.1.2 ∧ cr f.1 f.2 p < 0)
theorem hs_pp {p : Pt} {f : Sg} (lf : ltP f.1 f.2) (hn : ¬ OnS p f) : Hs p f = ind (p.1 < f.2.1 ∧ p.2 < f.2.2) - ind (p.1 < f.1.1 ∧ p.2 < f.1.2) - ind (Pp p f) := by
  have hc : cr f.1 f.2 p = (f.1.1 - p.1) * (f.2.2 - p.2) - (f.2.1 - p.1) * (f.1.2 - p.2) := by unfold cr; grind
  have hn' : ¬ (cr f.1 f.2 p = 0 ∧ ¬ ltP p f.1 ∧ ¬ ltP f.2 p) := fun h => hn (by unfold OnS; rw [ends_lt lf]; exact h)
  unfold Hs Pp
  rw [hc] at hn' ⊢
  unfold ltP at lf hn'
  obtain ⟨⟨a1, a2⟩, b1, b2⟩ := f
  obtain ⟨p1, p2⟩ := p
  simp only [] at *
  have s1 := sgnc (a1 - p1) (b2 - p2)
  have s2 := sgnc (b1 - p1) (a2 - p2)
  clear hc hn
  generalize (a1 - p1) * (b2 - p2) = X at *
  generalize (b1 - p1) * (a2 - p2) = Y at *
  simp only [ind_ite]
  grind
/-- Crossed to the right of a point. -/
def Hc (p a b : Pt) : Prop := (a.2 ≤ p.2 ∧ p.2 < b.2 ∧ 0 < cr a b p) ∨ (b.2 ≤ p.2 ∧ p.2 < a.2 ∧ 0 < cr b a p)
instance (p a b : Pt) : Decidable (Hc p a b) := by unfold Hc; infer_instance
theorem cr_swap (a b p : Pt) : cr b a p = - cr a b p := by unfold cr; grind
theorem Hc_comm (p a b : Pt) : Hc p a b ↔ Hc p b a := by unfold Hc; exact Or.comm
/-- As often, but for an even number. -/
def Par (x y : Int) : Prop := (x - y) % 2 = 0
theorem Par.refl (x : Int) : Par x x := by unfold Par; omega
theorem Par.symm {x y : Int} (h : Par x y) : Par y x := by unfold Par at *; omega
theorem Par.trans {x y z : Int} (h : Par x y) (k : Par y z) : Par x z := by unfold Par at *; omega
theorem Par.sum {n : Nat} {f g : Nat → Int} (h : ∀ i, i < n → Par (f i) (g i)) : Par (sm n f) (sm n g) := by
  induction n with
  | zero => exact Par.refl _
  | succ n ih =>
    have a := ih fun i hi => h i (by omega)
    have b := h n (by omega)
    unfold sm
    unfold Par at *
    omega
theorem hc_hs (p : Pt) (f : Sg) : (ind (Hc p f.1 f.2) = 0 ∧ Hs p f = 0) ∨ (ind (Hc p f.1 f.2) = 1 ∧ (Hs p f = 1 ∨ Hs p f = -1)) := by
  unfold Hs Hc
  rw [cr_swap]
  simp only [ind_ite]
  grind
theorem par_sd (c : Nat → Int) (i : Nat) (p : Pt) (f : Sg) : Par (c (2 * i) * ind (Hc p f.1 f.2) + c (2 * i + 1) * ind (Hc p f.1 f.2)) (tau c i * Hs p f) := by
  unfold Par tau
  rcases hc_hs p f with ⟨a, b⟩ | ⟨a, b | b⟩ <;> rw [a, b] <;> omega
/-- The crossings of a closed set of pieces to the right are as many as those above, but for an even number. -/
theorem par_cross {n : Nat} {e : Nat → Sg} {t : Nat → Int} (hf : Figure n e) (hc : Closed n e t) {p : Pt} (hn : ∀ i, i < n → ¬ OnS p (e i)) : sm n (fun i => t i * Hs p (e i)) = - Vp n e t p := by
  have h := hc fun z => ind (p.1 < z.1 ∧ p.2 < z.2)
  unfold Vp
  rw [show sm n (fun i => t i * Hs p (e i)) = sm n (fun i => t i * Hs p (e i)) + sm n (fun i => t i * (ind (p.1 < (e i).1.1 ∧ p.2 < (e i).1.2) - ind (p.1 < (e i).2.1 ∧ p.2 < (e i).2.2))) by rw [h]; omega, ← sm_add]
  rw [show - sm n (fun i => t i * ind (Pp p (e i))) = (-1) * sm n (fun i => t i * ind (Pp p (e i))) by omega, ← sm_mul]
  refine sm_congr fun i hi => ?_
  rw [hs_pp (hf.lt i hi) (hn i hi)]
  grind
/-- The crossings of the way round a face, to the right of a point that is on no piece: odd in that face alone. -/
theorem Faced.cross {n : Nat} {e : Nat → Sg} {nxt : Nat → Nat} {face : Nat → Int} (h : Faced n e nxt face) {g : Int} (hg : g ≠ 0) {p : Pt} (hn : ∀ i, i < n → ¬ OnS p (e i)) {a : Int} (ha : AtIs n e face p a) :
    Par (sm (2 * n) (fun d => ind (face d = g) * ind (Hc p (dFrom e d) (dTo e d)))) (ind (a = g)) := by
  have h1 := h.at g ha
  rw [ind_false (p := 0 = g) (by omega)] at h1
  have h2 := par_cross h.web.fig (h.closed g) hn
  rw [sm_two]
  have h3 : Par (sm n (fun i => chi face g (2 * i) * ind (Hc p (e i).1 (e i).2) + chi face g (2 * i + 1) * ind (Hc p (e i).1 (e i).2))) (sm n (fun i => tau (chi face g) i * Hs p (e i))) := Par.sum fun i _ => par_sd (chi face g) i p (e i)
  rw [h2, h1] at h3
  have h4 : sm n (fun i => ind (face (2 * i) = g) * ind (Hc p (dFrom e (2 * i)) (dTo e (2 * i))) + ind (face (2 * i + 1) = g) * ind (Hc p (dFrom e (2 * i + 1)) (dTo e (2 * i + 1)))) = sm n (fun i => chi face g (2 * i) * ind (Hc p (e i).1 (e i).2) + chi face g (2 * i + 1) * ind (Hc p (e i).1 (e i).2)) := by
    refine sm_congr fun i _ => ?_
    rw [dFrom_even, dTo_even, dFrom_odd, dTo_odd, ind_congr (Hc_comm p (e i).2 (e i).1)]
    rfl
  rw [h4]
  unfold Par at *
  omega
end Go.Proofs.YtlglfcdobbocnaaGreat

/-! Pieces of segments: on one line; how they meet. -/
namespace Go.Proofs.YtlglfcdobbocnaaGreat
/-- Strictly on two sides of zero. -/
def Opp (x y : Int) : Prop := x < 0 ∧ 0 < y ∨ 0 < x ∧ y < 0
instance (x y : Int) : Decidable (Opp x y) := by unfold Opp; infer_instance
theorem meet_3 (s t : Sg) : meetF s t = 3 ↔ Opp (cr s.1 s.2 t.1) (cr s.1 s.2 t.2) ∧ Opp (cr t.1 t.2 s.1) (cr t.1 t.2 s.2) := by
  unfold meetF Opp Same
  generalize cr s.1 s.2 t.1 = a
  generalize cr s.1 s.2 t.2 = b
  generalize cr t.1 t.2 s.1 = c
  generalize cr t.1 t.2 s.2 = d
  by_cases h1 : a = 0 ∧ b = 0
  · rw [if_pos h1]
    split
    · omega
    · split <;> omega
  · rw [if_neg h1]
    split
    · omega
    · split
      · omega
      · split <;> omega
theorem meet_4 (s t : Sg) : meetF s t = 4 ↔ cr s.1 s.2 t.1 = 0 ∧ cr s.1 s.2 t.2 = 0 ∧ ltP (lowP s t) (highP s t) := by
  unfold meetF
  by_cases h1 : cr s.1 s.2 t.1 = 0 ∧ cr s.1 s.2 t.2 = 0
  · rw [if_pos h1]
    split
    · rename_i h; exact ⟨fun _ => ⟨h1.1, h1.2, h⟩, fun _ => rfl⟩
    · rename_i h
      refine ⟨fun k => ?_, fun k => absurd k.2.2 h⟩
      split at k <;> omega
  · rw [if_neg h1]
    refine ⟨fun k => ?_, fun k => absurd ⟨k.1, k.2.1⟩ h1⟩
    split at k
    · omega
    · split at k
      · omega
      · split at k <;> omega
theorem meet_2 {s t : Sg} (h : meetF s t = 2) : (Opp (cr s.1 s.2 t.1) (cr s.1 s.2 t.2) ∧ (cr t.1 t.2 s.1 = 0 ∨ cr t.1 t.2 s.2 = 0)) ∨ (Opp (cr t.1 t.2 s.1) (cr t.1 t.2 s.2) ∧ (cr s.1 s.2 t.1 = 0 ∨ cr s.1 s.2 t.2 = 0)) := by
  have hd := cr_id s.1 s.2 t.1 t.2
  unfold meetF at h
  unfold Opp
  by_cases h1 : cr s.1 s.2 t.1 = 0 ∧ cr s.1 s.2 t.2 = 0
  · rw [if_pos h1] at h
    split at h
    · omega
    · split at h <;> omega
  · rw [if_neg h1] at h
    unfold Same at h
    generalize cr s.1 s.2 t.1 = a at *
    generalize cr s.1 s.2 t.2 = b at *
    generalize cr t.1 t.2 s.1 = c at *
    generalize cr t.1 t.2 s.2 = d at *
    split at h
    · omega
    · split at h
      · omega
      · split at h
        · omega
        · omega
theorem meet_lt (s t : Sg) : meetF s t = 0 ∨ meetF s t = 1 ∨ meetF s t = 2 ∨ meetF s t = 3 ∨ meetF s t = 4 := by
  unfold meetF
  split
  · split
    · omega
    · split <;> omega
  · split
    · omega
    · split
      · omega
      · split <;> omega
theorem cr_self1 (a b : Pt) : cr a b a = 0 := by unfold cr; grind
theorem cr_self2 (a b : Pt) : cr a b b = 0 := by unfold cr; grind
/-- Two ways on one line. -/
theorem same_line {a b u v : Pt} (h1 : ltP a b) (h2 : ltP u v) (c1 : cr a b u = 0) (c2 : cr a b v = 0) :
    ∃ p q, 0 < p ∧ 0 < q ∧ p * (v.1 - u.1) = q * (b.1 - a.1) ∧ p * (v.2 - u.2) = q * (b.2 - a.2) ∧ ∀ z, p * cr u v z = q * cr a b z := by
  have hd : (b.1 - a.1) * (v.2 - u.2) = (b.2 - a.2) * (v.1 - u.1) := by unfold cr at c1 c2; grind
  have fin : ∀ p q, p * (v.1 - u.1) = q * (b.1 - a.1) → p * (v.2 - u.2) = q * (b.2 - a.2) → ∀ z, p * cr u v z = q * cr a b z := by
    intro p q e1 e2 z
    have e3 : p * cr u v z = (p * (v.1 - u.1)) * (z.2 - u.2) - (p * (v.2 - u.2)) * (z.1 - u.1) := by unfold cr; grind
    rw [e3, e1, e2]
    have e4 : cr a b z - cr a b u = (b.1 - a.1) * (z.2 - u.2) - (b.2 - a.2) * (z.1 - u.1) := by unfold cr; grind
    rw [c1] at e4
    grind
  unfold ltP at h1 h2
  by_cases hx : a.1 < b.1
  · have hu : u.1 < v.1 := by
      rcases h2 with h2 | ⟨e, h2⟩
      · exact h2
      · have := Int.mul_pos (show 0 < b.1 - a.1 by omega) (show 0 < v.2 - u.2 by omega)
        rw [hd, e, Int.sub_self, Int.mul_zero] at this
        omega
    exact ⟨b.1 - a.1, v.1 - u.1, by omega, by omega, by grind, by grind, fin _ _ (by grind) (by grind)⟩
  · have ha : a.1 = b.1 := by omega
    have hy : a.2 < b.2 := by omega
    have k : ∀ z, cr a b z = 0 → z.1 = a.1 := by
      intro z hz
      have e : cr a b z = (b.2 - a.2) * (a.1 - z.1) := by unfold cr; rw [← ha]; grind
      have := (mulp (a := b.2 - a.2) (x := a.1 - z.1) (by omega)).2.2.1 (by omega)
      omega
    have ku := k u c1
    have kv := k v c2
    have e1 : (b.2 - a.2) * (v.1 - u.1) = (v.2 - u.2) * (b.1 - a.1) := by rw [ku, kv, ha]; grind
    have e2 : (b.2 - a.2) * (v.2 - u.2) = (v.2 - u.2) * (b.2 - a.2) := by grind
    exact ⟨b.2 - a.2, v.2 - u.2, by omega, by omega, e1, e2, fin _ _ e1 e2⟩
theorem sign_of {p q x y : Int} (hp : 0 < p) (hq : 0 < q) (h : p * x = q * y) : (x < 0 ↔ y < 0) ∧ (0 < x ↔ 0 < y) ∧ (x = 0 ↔ y = 0) := by
  have h1 := mulp (x := x) hp
  have h2 := mulp (x := y) hq
  omega
/-- Along a line a cross product grows evenly: beyond a change of sign it keeps its sign. -/
theorem ext_lo {a z b : Pt} (h0 : cr a b z = 0) (h1 : ¬ ltP z a) (h2 : ltP z b) (c d : Pt) : (cr c d z < 0 → 0 < cr c d b → cr c d a < 0) ∧ (0 < cr c d z → cr c d b < 0 → 0 < cr c d a) := by
  rcases ltP_le.1 h1 with h1 | rfl
  · obtain ⟨p, q, hm⟩ := mid_of h0 h1 h2
    have e := hm.cr c d
    have s1 := sgnc p (cr c d a)
    have s2 := sgnc q (cr c d b)
    have s3 := sgnc (p + q) (cr c d z)
    have := hm.1
    have := hm.2.1
    constructor <;> (intro k1 k2; omega)
  · exact ⟨fun h _ => h, fun h _ => h⟩
theorem ext_hi {a z b : Pt} (h0 : cr a b z = 0) (h1 : ltP a z) (h2 : ¬ ltP b z) (c d : Pt) : (cr c d a < 0 → 0 < cr c d z → 0 < cr c d b) ∧ (0 < cr c d a → cr c d z < 0 → cr c d b < 0) := by
  rcases ltP_le.1 h2 with h2 | rfl
  · obtain ⟨p, q, hm⟩ := mid_of h0 h1 h2
    have e := hm.cr c d
    have s1 := sgnc p (cr c d a)
    have s2 := sgnc q (cr c d b)
    have s3 := sgnc (p + q) (cr c d z)
    have := hm.1
    have := hm.2.1
    constructor <;> (intro k1 k2; omega)
  · exact ⟨fun _ h => h, fun _ h => h⟩
/-- x is a part of f. -/
structure Sub (x f : Sg) : Prop where
  lx : ltP x.1 x.2
  lf : ltP f.1 f.2
  c1 : cr f.1 f.2 x.1 = 0
  c2 : cr f.1 f.2 x.2 = 0
  lo : ¬ ltP x.1 f.1
  hi : ¬ ltP f.2 x.2
theorem Sub.refl {f : Sg} (h : ltP f.1 f.2) : Sub f f := ⟨h, h, by unfold cr; grind, by unfold cr; grind, ltP_irrefl _, ltP_irrefl _⟩
theorem Sub.line {x f : Sg} (h : Sub x f) : ∃ p q, 0 < p ∧ 0 < q ∧ p * (x.2.1 - x.1.1) = q * (f.2.1 - f.1.1) ∧ p * (x.2.2 - x.1.2) = q * (f.2.2 - f.1.2) ∧ ∀ z, p * cr x.1 x.2 z = q * cr f.1 f.2 z := same_line h.lf h.lx h.c1 h.c2
theorem Sub.sign {x f : Sg} (h : Sub x f) (z : Pt) : (cr x.1 x.2 z < 0 ↔ cr f.1 f.2 z < 0) ∧ (0 < cr x.1 x.2 z ↔ 0 < cr f.1 f.2 z) ∧ (cr x.1 x.2 z = 0 ↔ cr f.1 f.2 z = 0) := by
  obtain ⟨p, q, hp, hq, -, -, he⟩ := h.line
  exact sign_of hp hq (he z)
theorem ltP_of_le {a b c : Pt} (h1 : ¬ ltP b a) (h2 : ltP b c) : ltP a c := by
  rcases ltP_le.1 h1 with h | rfl
  · exact ltP_trans h h2
  · exact h2
theorem ltP_of_lt {a b c : Pt} (h1 : ltP a b) (h2 : ¬ ltP c b) : ltP a c := by
  rcases ltP_le.1 h2 with h | rfl
  · exact ltP_trans h1 h
  · exact h1
/-- The ends of a part, seen from its whole. -/
theorem Sub.ends {x f : Sg} (h : Sub x f) (c d : Pt) (ho : Opp (cr c d x.1) (cr c d x.2)) : Opp (cr c d f.1) (cr c d f.2) ∧ (cr c d x.1 < 0 ↔ cr c d f.1 < 0) := by
  have e1 : cr f.1 x.2 x.1 = 0 := by
    have h1 := h.c1
    have h2 := h.c2
    have l : ltP f.1 x.2 := ltP_of_le h.lo h.lx
    obtain ⟨p, q, hp, hq, -, -, he⟩ := same_line h.lf l (cr_self1 _ _) h2
    exact (sign_of hp hq (he x.1)).2.2.2 h1
  have e2 : cr x.1 f.2 x.2 = 0 := by
    have h1 := h.c1
    have h2 := h.c2
    have l : ltP x.1 f.2 := ltP_of_lt h.lx h.hi
    obtain ⟨p, q, hp, hq, -, -, he⟩ := same_line h.lf l h1 (by unfold cr; grind)
    exact (sign_of hp hq (he x.2)).2.2.2 h2
  have a := ext_lo e1 h.lo h.lx c d
  have b := ext_hi e2 h.lx h.hi c d
  unfold Opp at *
  omega
theorem Sub.low {x f y g : Sg} (hx : Sub x f) (hy : Sub y g) (h : ltP (lowP x y) (highP x y)) : ltP (lowP f g) (highP f g) := by
  have a1 := hx.lo
  have a2 := hx.hi
  have b1 := hy.lo
  have b2 := hy.hi
  unfold lowP highP at *
  rw [ends_lt hx.lx, ends_lt hy.lx] at h
  rw [ends_lt hx.lf, ends_lt hy.lf]
  have c1 := hx.lx
  have c2 := hy.lx
  have c3 := hx.lf
  have c4 := hy.lf
  have m : ∀ {l l' u u' : Pt}, ¬ ltP l l' → ¬ ltP u' u → ltP l u → ltP l' u' := fun k1 k2 k3 => ltP_of_lt (ltP_of_le k1 k3) k2
  refine m (l := if ltP x.1 y.1 then y.1 else x.1) (u := if ltP y.2 x.2 then y.2 else x.2) ?_ ?_ h
  · split <;> split
    · exact b1
    · rename_i k1 k2
      intro k3
      exact a1 (ltP_trans k1 k3)
    · rename_i k1 k2
      intro k3
      rcases ltP_le.1 k1 with k1 | k1
      · exact b1 (ltP_trans k1 k3)
      · rw [← k1] at k3; exact b1 k3
    · exact a1
  · split <;> split
    · exact b2
    · rename_i k1 k2
      intro k3
      exact b2 (ltP_of_lt k3 k2)
    · rename_i k1 k2
      intro k3
      exact a2 (ltP_trans k3 k2)
    · exact a2
/-- Parts of segments that do not cross or overlap do neither. -/
theorem Sub.meet {x f y g : Sg} (hx : Sub x f) (hy : Sub y g) (h3 : meetF f g ≠ 3) (h4 : meetF f g ≠ 4) : meetF x y ≠ 3 ∧ meetF x y ≠ 4 := by
  refine ⟨fun h => h3 ?_, fun h => h4 ?_⟩
  · rw [meet_3] at h ⊢
    have o1 : Opp (cr f.1 f.2 y.1) (cr f.1 f.2 y.2) := by
      have := hx.sign y.1
      have := hx.sign y.2
      have := h.1
      unfold Opp at *
      omega
    have o2 : Opp (cr g.1 g.2 x.1) (cr g.1 g.2 x.2) := by
      have := hy.sign x.1
      have := hy.sign x.2
      have := h.2
      unfold Opp at *
      omega
    exact ⟨(hy.ends _ _ o1).1, (hx.ends _ _ o2).1⟩
  · rw [meet_4] at h ⊢
    obtain ⟨k1, k2, k3⟩ := h
    have k1' := (hx.sign y.1).2.2.1 k1
    have k2' := (hx.sign y.2).2.2.1 k2
    have key : ∀ z, cr y.1 y.2 z = 0 → cr f.1 f.2 z = 0 := by
      intro z hz
      obtain ⟨p, q, hp, hq, -, -, he⟩ := same_line hx.lf hy.lx k1' k2'
      exact (sign_of hp hq (he z)).2.2.1 hz
    exact ⟨key _ ((hy.sign g.1).2.2.2 (by unfold cr; grind)), key _ ((hy.sign g.2).2.2.2 (by unfold cr; grind)), Sub.low hx hy k3⟩
/-- Where an end of one lies in the inner part of another one. -/
def Inside (z : Pt) (s : Sg) : Prop := cr s.1 s.2 z = 0 ∧ ltP s.1 z ∧ ltP z s.2
theorem inside_of {x y : Sg} {z : Pt} (ly : ltP y.1 y.2) (hz : cr x.1 x.2 z = 0) (h0 : cr y.1 y.2 z = 0) (ho : Opp (cr x.1 x.2 y.1) (cr x.1 x.2 y.2)) : Inside z y := by
  refine ⟨h0, ?_, ?_⟩
  · apply Classical.byContradiction
    intro h
    have hne : z ≠ y.1 := fun k => by rw [k] at hz; unfold Opp at ho; omega
    have l := (ltP_total hne).resolve_right h
    have e : cr z y.2 y.1 = 0 := by have : cr z y.2 y.1 = - cr y.1 y.2 z + 0 := by unfold cr; grind
                                    omega
    obtain ⟨p, q, hm⟩ := mid_of e l ly
    have k := hm.cr x.1 x.2
    have s2 := sgnc q (cr x.1 x.2 y.2)
    have s3 := sgnc (p + q) (cr x.1 x.2 y.1)
    have := hm.1
    have := hm.2.1
    rw [hz, Int.mul_zero] at k
    unfold Opp at ho
    omega
  · apply Classical.byContradiction
    intro h
    have hne : y.2 ≠ z := fun k => by rw [← k] at hz; unfold Opp at ho; omega
    have l := (ltP_total hne).resolve_right h
    have e : cr y.1 z y.2 = 0 := by have : cr y.1 z y.2 = - cr y.1 y.2 z := by unfold cr; grind
                                    omega
    obtain ⟨p, q, hm⟩ := mid_of e ly l
    have k := hm.cr x.1 x.2
    have s2 := sgnc p (cr x.1 x.2 y.1)
    have s3 := sgnc (p + q) (cr x.1 x.2 y.2)
    have := hm.1
    have := hm.2.1
    rw [hz, Int.mul_zero] at k
    unfold Opp at ho
    omega
/-- A touch is an end of one in the inner part of the other one. -/
theorem touch_of {x y : Sg} (lx : ltP x.1 x.2) (ly : ltP y.1 y.2) (h : meetF x y = 2) : (∃ z, (z = x.1 ∨ z = x.2) ∧ Inside z y) ∨ (∃ z, (z = y.1 ∨ z = y.2) ∧ Inside z x) := by
  rcases meet_2 h with ⟨ho, h0 | h0⟩ | ⟨ho, h0 | h0⟩
  · exact .inl ⟨x.1, .inl rfl, inside_of ly (cr_self1 _ _) h0 ho⟩
  · exact .inl ⟨x.2, .inr rfl, inside_of ly (cr_self2 _ _) h0 ho⟩
  · exact .inr ⟨y.1, .inl rfl, inside_of lx (cr_self1 _ _) h0 ho⟩
  · exact .inr ⟨y.2, .inr rfl, inside_of lx (cr_self2 _ _) h0 ho⟩
end Go.Proofs.YtlglfcdobbocnaaGreat

/-! Segments cut at each other's ends; the figure of the pieces; weights of pieces by their segments. -/
namespace Go.Proofs.YtlglfcdobbocnaaGreat
def pc (q : Nat → Nat → Pt) (i j : Nat) : Sg := (q i j, q i (j + 1))
/-- Segments that do not cross or overlap, and the points at which they are cut. -/
structure Cut (m : Nat) (F : Nat → Sg) (r : Nat → Nat) (q : Nat → Nat → Pt) : Prop where
  lt : ∀ i, i < m → ltP (F i).1 (F i).2
  q0 : ∀ i, i < m → q i 0 = (F i).1
  qr : ∀ i, i < m → q i (r i) = (F i).2
  qlt : ∀ i, i < m → ∀ j, j < r i → ltP (q i j) (q i (j + 1))
  qon : ∀ i, i < m → ∀ j, j ≤ r i → cr (F i).1 (F i).2 (q i j) = 0
  qend : ∀ i, i < m → ∀ j, j ≤ r i → ∃ i', i' < m ∧ (q i j = (F i').1 ∨ q i j = (F i').2)
  full : ∀ i i', i < m → i' < m → ∀ z, z = (F i').1 ∨ z = (F i').2 → Inside z (F i) → ∃ j, j ≤ r i ∧ z = q i j
  meet : ∀ i i', i < m → i' < m → i ≠ i' → meetF (F i) (F i') ≠ 3 ∧ meetF (F i) (F i') ≠ 4
theorem Cut.mono {m : Nat} {F : Nat → Sg} {r : Nat → Nat} {q : Nat → Nat → Pt} (h : Cut m F r q) {i : Nat} (hi : i < m) {j k : Nat} (hjk : j < k) (hk : k ≤ r i) : ltP (q i j) (q i k) := by
  induction k with
  | zero => omega
  | succ k ih =>
    by_cases g : j = k
    · subst g; exact h.qlt i hi j (by omega)
    · exact ltP_trans (ih (by omega) (by omega)) (h.qlt i hi k (by omega))
theorem Cut.mono_iff {m : Nat} {F : Nat → Sg} {r : Nat → Nat} {q : Nat → Nat → Pt} (h : Cut m F r q) {i : Nat} (hi : i < m) {j k : Nat} (hj : j ≤ r i) (hk : k ≤ r i) : (ltP (q i j) (q i k) ↔ j < k) ∧ (q i j = q i k ↔ j = k) := by
  rcases Nat.lt_trichotomy j k with g | g | g
  · have l := h.mono hi g hk
    exact ⟨⟨fun _ => g, fun _ => l⟩, ⟨fun e => absurd l (by rw [e]; exact ltP_irrefl _), fun e => by omega⟩⟩
  · subst g
    exact ⟨⟨fun l => absurd l (ltP_irrefl _), fun k => by omega⟩, ⟨fun _ => rfl, fun _ => rfl⟩⟩
  · have l := h.mono hi g hj
    exact ⟨⟨fun l' => absurd l' (ltP_asymm l), fun k => by omega⟩, ⟨fun e => absurd l (by rw [e]; exact ltP_irrefl _), fun e => by omega⟩⟩
theorem Cut.sub {m : Nat} {F : Nat → Sg} {r : Nat → Nat} {q : Nat → Nat → Pt} (h : Cut m F r q) {i j : Nat} (hi : i < m) (hj : j < r i) : Sub (pc q i j) (F i) := by
  refine ⟨h.qlt i hi j hj, h.lt i hi, h.qon i hi j (by omega), h.qon i hi (j + 1) (by omega), ?_, ?_⟩
  · rw [← h.q0 i hi]
    show ¬ ltP (q i j) (q i 0)
    rw [(h.mono_iff hi (by omega) (by omega)).1]
    omega
  · rw [← h.qr i hi]
    show ¬ ltP (q i (r i)) (q i (j + 1))
    rw [(h.mono_iff hi (by omega) (by omega)).1]
    omega
theorem Cut.no_inside {m : Nat} {F : Nat → Sg} {r : Nat → Nat} {q : Nat → Nat → Pt} (h : Cut m F r q) {i j i' j' : Nat} (hi : i < m) (hj : j < r i) (hi' : i' < m) (hj' : j' ≤ r i') : ¬ Inside (q i' j') (pc q i j) := by
  intro ⟨h0, h1, h2⟩
  have hs := h.sub hi hj
  obtain ⟨a, ha, hz⟩ := h.qend i' hi' j' hj'
  obtain ⟨b, hb, e⟩ := h.full i a hi ha (q i' j') hz ⟨(hs.sign _).2.2.1 h0, ltP_of_le hs.lo h1, ltP_of_lt h2 hs.hi⟩
  rw [e] at h1 h2
  have k1 := (h.mono_iff hi (j := j) (k := b) (by omega) hb).1.1 h1
  have k2 := (h.mono_iff hi (j := b) (k := j + 1) hb (by omega)).1.1 h2
  omega
theorem Cut.apart {m : Nat} {F : Nat → Sg} {r : Nat → Nat} {q : Nat → Nat → Pt} (h : Cut m F r q) {i j i' j' : Nat} (hi : i < m) (hj : j < r i) (hi' : i' < m) (hj' : j' < r i') (hn : ¬ (i = i' ∧ j = j')) :
    meetF (pc q i j) (pc q i' j') = 0 ∨ meetF (pc q i j) (pc q i' j') = 1 := by
  have s := h.sub hi hj
  have s' := h.sub hi' hj'
  have n34 : meetF (pc q i j) (pc q i' j') ≠ 3 ∧ meetF (pc q i j) (pc q i' j') ≠ 4 := by
    by_cases g : i = i'
    · subst g
      have e : ∀ z, cr (F i).1 (F i).2 z = 0 → cr (pc q i j).1 (pc q i j).2 z = 0 := fun z hz => (s.sign z).2.2.2 hz
      refine ⟨fun k => ?_, fun k => ?_⟩
      · rw [meet_3] at k
        have := e _ s'.c1
        have := k.1
        unfold Opp at this
        omega
      · rw [meet_4] at k
        have k := k.2.2
        unfold lowP highP at k
        rw [ends_lt s.lx, ends_lt s'.lx] at k
        unfold pc at k
        simp only [] at k
        rcases Nat.lt_or_gt_of_ne (fun g => hn ⟨rfl, g⟩ : j ≠ j') with g | g
        · rw [if_pos (h.mono hi g (by omega)), if_neg (by rw [(h.mono_iff hi (by omega) (by omega)).1]; omega), (h.mono_iff hi (by omega) (by omega)).1] at k
          omega
        · rw [if_neg (by rw [(h.mono_iff hi (by omega) (by omega)).1]; omega), if_pos (h.mono hi (by omega) (by omega)), (h.mono_iff hi (by omega) (by omega)).1] at k
          omega
    · have := h.meet i i' hi hi' g
      exact Sub.meet s s' this.1 this.2
  have n2 : meetF (pc q i j) (pc q i' j') ≠ 2 := by
    intro k
    rcases touch_of s.lx s'.lx k with ⟨z, hz | hz, hin⟩ | ⟨z, hz | hz, hin⟩
    · rw [hz] at hin; exact h.no_inside hi' hj' hi (by omega) hin
    · rw [hz] at hin; exact h.no_inside hi' hj' hi (by omega : j + 1 ≤ r i) hin
    · rw [hz] at hin; exact h.no_inside hi hj hi' (by omega) hin
    · rw [hz] at hin; exact h.no_inside hi hj hi' (by omega : j' + 1 ≤ r i') hin
  have := meet_lt (pc q i j) (pc q i' j')
  omega
theorem Cut.pc_inj {m : Nat} {F : Nat → Sg} {r : Nat → Nat} {q : Nat → Nat → Pt} (h : Cut m F r q) {i j i' j' : Nat} (hi : i < m) (hj : j < r i) (hi' : i' < m) (hj' : j' < r i') (he : pc q i j = pc q i' j') : i = i' ∧ j = j' := by
  apply Classical.byContradiction
  intro hn
  have := h.apart hi hj hi' hj' hn
  refine not_self (e := pc q i j) (f := pc q i' j') ?_ (h.sub hi hj).lx (by rw [he]) (by rw [he])
  rcases this with g | g
  · exact .inl g
  · exact .inr (.inl g)
/-- The pieces, in some order. -/
structure Pieces (m : Nat) (F : Nat → Sg) (r : Nat → Nat) (q : Nat → Nat → Pt) (n : Nat) (e : Nat → Sg) : Prop extends Cut m F r q where
  perm : ∀ f : Sg → Int, sm n (fun k => f (e k)) = sm m (fun i => sm (r i) (fun j => f (pc q i j)))
  inj : ∀ k k', k < n → k' < n → e k = e k' → k = k'
  mem : ∀ k, k < n → ∃ i, i < m ∧ ∃ j, j < r i ∧ e k = pc q i j
  all : ∀ i, i < m → ∀ j, j < r i → ∃ k, k < n ∧ e k = pc q i j
theorem Pieces.meets {m : Nat} {F : Nat → Sg} {r : Nat → Nat} {q : Nat → Nat → Pt} {n : Nat} {e : Nat → Sg} (h : Pieces m F r q n e) {k k' : Nat} (hk : k < n) (hk' : k' < n) (hn : k ≠ k') : meetF (e k) (e k') = 0 ∨ meetF (e k) (e k') = 1 := by
  obtain ⟨i, hi, j, hj, e1⟩ := h.mem k hk
  obtain ⟨i', hi', j', hj', e2⟩ := h.mem k' hk'
  rw [e1, e2]
  refine h.toCut.apart hi hj hi' hj' fun g => hn (h.inj k k' hk hk' ?_)
  rw [e1, e2, g.1, g.2]
theorem Pieces.figure {m : Nat} {F : Nat → Sg} {r : Nat → Nat} {q : Nat → Nat → Pt} {n : Nat} {e : Nat → Sg} (h : Pieces m F r q n e) : Figure n e := by
  refine ⟨fun k hk => ?_, fun k k' hk hk' hn => ?_⟩
  · obtain ⟨i, hi, j, hj, e1⟩ := h.mem k hk
    rw [e1]
    exact (h.toCut.sub hi hj).lx
  · rcases h.meets hk hk' hn with g | g
    · exact .inl g
    · exact .inr (.inl g)
/-- The weight of a piece is that of its segment. -/
noncomputable def tw (m : Nat) (r : Nat → Nat) (q : Nat → Nat → Pt) (wt : Nat → Int) (s : Sg) : Int := sm m (fun i => sm (r i) (fun j => wt i * ind (s = pc q i j)))
theorem tw_pc {m : Nat} {F : Nat → Sg} {r : Nat → Nat} {q : Nat → Nat → Pt} (h : Cut m F r q) (wt : Nat → Int) {i j : Nat} (hi : i < m) (hj : j < r i) : tw m r q wt (pc q i j) = wt i := by
  unfold tw
  rw [sm_congr (g := fun i' => wt i' * ind (i = i')) (fun i' hi' => by
    by_cases g : i = i'
    · subst g
      rw [ind_true rfl, Int.mul_one, sm_congr (g := fun j' => (fun _ => wt i) j' * ind (j = j')) (fun j' hj' => by
        congr 1
        exact ind_congr ⟨fun k => (h.pc_inj hi hj hi hj' k).2, fun k => by rw [k]⟩), sm_pick _ _ hj]
    · rw [ind_false g, Int.mul_zero, sm_congr (g := fun _ => 0) (fun j' hj' => by
        rw [ind_false (fun k => g (h.pc_inj hi hj hi' hj' k).1), Int.mul_zero]), sm_zero])]
  exact sm_pick _ _ hi wt
theorem Pieces.sum {m : Nat} {F : Nat → Sg} {r : Nat → Nat} {q : Nat → Nat → Pt} {n : Nat} {e : Nat → Sg} (h : Pieces m F r q n e) (wt : Nat → Int) (f : Sg → Int) : sm n (fun k => tw m r q wt (e k) * f (e k)) = sm m (fun i => wt i * sm (r i) (fun j => f (pc q i j))) := by
  rw [h.perm (fun s => tw m r q wt s * f s)]
  refine sm_congr fun i hi => ?_
  rw [← sm_mul]
  refine sm_congr fun j hj => ?_
  rw [tw_pc h.toCut wt hi hj]
theorem telescope (r : Nat) (f : Nat → Int) : sm r (fun j => f j - f (j + 1)) = f 0 - f r := by
  induction r with
  | zero => simp [sm]
  | succ r ih => simp only [sm]; rw [ih]; omega
theorem Pieces.closed {m : Nat} {F : Nat → Sg} {r : Nat → Nat} {q : Nat → Nat → Pt} {n : Nat} {e : Nat → Sg} (h : Pieces m F r q n e) (wt : Nat → Int) (hc : Closed m F wt) : Closed n e (fun k => tw m r q wt (e k)) := by
  intro φ
  rw [h.sum wt (fun s => φ s.1 - φ s.2), ← hc φ]
  refine sm_congr fun i hi => ?_
  have := telescope (r i) (fun j => φ (q i j))
  unfold pc
  simp only []
  rw [this, h.q0 i hi, h.qr i hi]
/-- Over the pieces of a segment: one of them is in the column of x, if the segment is. -/
theorem Cut.cols {m : Nat} {F : Nat → Sg} {r : Nat → Nat} {q : Nat → Nat → Pt} (h : Cut m F r q) {i : Nat} (hi : i < m) (x : Int) : sm (r i) (fun j => ind ((pc q i j).1.1 ≤ x ∧ x < (pc q i j).2.1)) = ind ((F i).1.1 ≤ x ∧ x < (F i).2.1) := by
  have e1 : ∀ j, j < r i → ind ((pc q i j).1.1 ≤ x ∧ x < (pc q i j).2.1) = ind ((q i j).1 ≤ x) - ind ((q i (j + 1)).1 ≤ x) := by
    intro j hj
    have := h.qlt i hi j hj
    unfold ltP at this
    unfold pc
    simp only [ind_ite]
    grind
  rw [sm_congr e1, telescope (r i) (fun j => ind ((q i j).1 ≤ x)), h.q0 i hi, h.qr i hi]
  have := h.lt i hi
  unfold ltP at this
  simp only [ind_ite]
  grind
theorem Cut.cols_if {m : Nat} {F : Nat → Sg} {r : Nat → Nat} {q : Nat → Nat → Pt} (h : Cut m F r q) {i : Nat} (hi : i < m) (x : Int) {P : Nat → Prop} {Q : Prop} (hP : ∀ j, j < r i → (pc q i j).1.1 ≤ x → x < (pc q i j).2.1 → (P j ↔ Q)) :
    sm (r i) (fun j => ind ((pc q i j).1.1 ≤ x ∧ x < (pc q i j).2.1 ∧ P j)) = ind ((F i).1.1 ≤ x ∧ x < (F i).2.1 ∧ Q) := by
  by_cases g : Q
  · rw [ind_congr (p := _ ∧ _ ∧ Q) (q := (F i).1.1 ≤ x ∧ x < (F i).2.1) (by simp [g]), ← h.cols hi x]
    exact sm_congr fun j hj => ind_congr ⟨fun k => ⟨k.1, k.2.1⟩, fun k => ⟨k.1, k.2, (hP j hj k.1 k.2).2 g⟩⟩
  · rw [ind_false (fun k => g k.2.2), sm_congr (g := fun _ => 0) (fun j hj => ind_false fun k => g ((hP j hj k.1 k.2.1).1 k.2.2)), sm_zero]
theorem Cut.sum_pp {m : Nat} {F : Nat → Sg} {r : Nat → Nat} {q : Nat → Nat → Pt} (h : Cut m F r q) {i : Nat} (hi : i < m) (p : Pt) : sm (r i) (fun j => ind (Pp p (pc q i j))) = ind (Pp p (F i)) :=
  h.cols_if hi p.1 fun _ hj _ _ => ((h.sub hi hj).sign p).1
/-- What is above in the column, seen by parts. -/
theorem gap_sub {a b f g : Sg} (ha : Sub a b) (hf : Sub f g) (hx : b.1.1 < b.2.1) (hy : g.1.1 < g.2.1) : ∃ c d : Int, 0 < c ∧ 0 < d ∧ ∀ x, c * gap a f x = d * gap b g x := by
  obtain ⟨p, q, hp, hq, e1, e2, -⟩ := ha.line
  obtain ⟨p', q', hp', hq', e1', e2', -⟩ := hf.line
  have wa : a.1.1 < a.2.1 := by
    have := (mulp (a := p) (x := a.2.1 - a.1.1) hp).1.1 (by rw [e1]; exact Int.mul_pos hq (by omega))
    omega
  have wf : f.1.1 < f.2.1 := by
    have := (mulp (a := p') (x := f.2.1 - f.1.1) hp').1.1 (by rw [e1']; exact Int.mul_pos hq' (by omega))
    omega
  have ga : ∀ x, (b.2.1 - b.1.1) * (a.1.2 * (a.2.1 - a.1.1) + (a.2.2 - a.1.2) * (x - a.1.1)) = (a.2.1 - a.1.1) * (b.1.2 * (b.2.1 - b.1.1) + (b.2.2 - b.1.2) * (x - b.1.1)) := by
    intro x
    have c1 := ha.c1
    have c2 := ha.c2
    unfold cr at c1 c2
    grind
  have gf : ∀ x, (g.2.1 - g.1.1) * (f.1.2 * (f.2.1 - f.1.1) + (f.2.2 - f.1.2) * (x - f.1.1)) = (f.2.1 - f.1.1) * (g.1.2 * (g.2.1 - g.1.1) + (g.2.2 - g.1.2) * (x - g.1.1)) := by
    intro x
    have c1 := hf.c1
    have c2 := hf.c2
    unfold cr at c1 c2
    grind
  refine ⟨(b.2.1 - b.1.1) * (g.2.1 - g.1.1), (a.2.1 - a.1.1) * (f.2.1 - f.1.1), Int.mul_pos (by omega) (by omega), Int.mul_pos (by omega) (by omega), fun x => ?_⟩
  have ga := ga x
  have gf := gf x
  unfold gap
  generalize a.1.2 * (a.2.1 - a.1.1) + (a.2.2 - a.1.2) * (x - a.1.1) = A at *
  generalize f.1.2 * (f.2.1 - f.1.1) + (f.2.2 - f.1.2) * (x - f.1.1) = B at *
  generalize b.1.2 * (b.2.1 - b.1.1) + (b.2.2 - b.1.2) * (x - b.1.1) = C at *
  generalize g.1.2 * (g.2.1 - g.1.1) + (g.2.2 - g.1.2) * (x - g.1.1) = D at *
  grind
theorem wide_of {a b : Sg} (ha : Sub a b) : a.1.1 < a.2.1 ↔ b.1.1 < b.2.1 := by
  obtain ⟨p, q, hp, hq, e1, -, -⟩ := ha.line
  have h1 := mulp (a := p) (x := a.2.1 - a.1.1) hp
  have h2 := mulp (a := q) (x := b.2.1 - b.1.1) hq
  omega
theorem gap_sub_sign {a b f g : Sg} (ha : Sub a b) (hf : Sub f g) (hx : b.1.1 < b.2.1) (hy : g.1.1 < g.2.1) (x : Int) : 0 < gap a f x + gap a f (x + 1) ↔ 0 < gap b g x + gap b g (x + 1) := by
  obtain ⟨c, d, hc, hd, he⟩ := gap_sub ha hf hx hy
  have h1 := mulp (a := c) (x := gap a f x + gap a f (x + 1)) hc
  have h2 := mulp (a := d) (x := gap b g x + gap b g (x + 1)) hd
  rw [Int.mul_add, he, he] at h1
  rw [Int.mul_add] at h2
  omega
/-- The pieces of a segment above a part of another one. -/
theorem Cut.sum_ab {m : Nat} {F : Nat → Sg} {r : Nat → Nat} {q : Nat → Nat → Pt} (h : Cut m F r q) {i : Nat} (hi : i < m) {a b : Sg} (ha : Sub a b) (hx : b.1.1 < b.2.1) (x : Int) : sm (r i) (fun j => ind (Ab a (pc q i j) x)) = ind (Ab b (F i) x) :=
  h.cols_if hi x fun j hj k1 k2 => by
    have hs := h.sub hi hj
    exact gap_sub_sign ha hs hx ((wide_of hs).1 (by omega)) x
end Go.Proofs.YtlglfcdobbocnaaGreat

/-! Along a segment that nothing crosses: the same is above. -/
namespace Go.Proofs.YtlglfcdobbocnaaGreat
/-- Twice as large. -/
def dP (p : Pt) : Pt := (2 * p.1, 2 * p.2)
def dS (s : Sg) : Sg := (dP s.1, dP s.2)
theorem cr_d (a b c : Pt) : cr (dP a) (dP b) (dP c) = 4 * cr a b c := by unfold cr dP; grind
theorem lt_d (a b : Pt) : ltP (dP a) (dP b) ↔ ltP a b := by unfold ltP dP; simp only []; omega
theorem pp_d (p : Pt) (f : Sg) : Pp (dP p) (dS f) ↔ Pp p f := by
  unfold Pp dS
  simp only []
  rw [cr_d]
  unfold dP
  simp only []
  omega
theorem inside_d (p : Pt) (s : Sg) : Inside (dP p) (dS s) ↔ Inside p s := by
  unfold Inside dS
  simp only []
  rw [cr_d, lt_d, lt_d]
  have : 4 * cr s.1 s.2 p = 0 ↔ cr s.1 s.2 p = 0 := by omega
  rw [this]
theorem meet_d3 (s t : Sg) : meetF (dS s) (dS t) = 3 ↔ meetF s t = 3 := by
  rw [meet_3, meet_3]
  unfold dS
  simp only []
  rw [cr_d, cr_d, cr_d, cr_d]
  unfold Opp
  omega
theorem ends_d {s : Sg} (h : ltP s.1 s.2) : endsF (dS s) = dS s := ends_lt (by unfold dS; simp only []; rw [lt_d]; exact h)
theorem meet_d4 {s t : Sg} (hs : ltP s.1 s.2) (ht : ltP t.1 t.2) : meetF (dS s) (dS t) = 4 ↔ meetF s t = 4 := by
  rw [meet_4, meet_4]
  have e : ltP (lowP (dS s) (dS t)) (highP (dS s) (dS t)) ↔ ltP (lowP s t) (highP s t) := by
    unfold lowP highP
    rw [ends_d hs, ends_d ht, ends_lt hs, ends_lt ht]
    unfold dS
    simp only [lt_d]
    split <;> split <;> rw [lt_d]
  rw [e]
  unfold dS
  simp only []
  rw [cr_d, cr_d]
  have : ∀ x : Int, 4 * x = 0 ↔ x = 0 := fun x => by omega
  rw [this, this]
/-- What is in the inner part of two segments: they cross or overlap. -/
theorem both_inside {z : Pt} {s t : Sg} (ls : ltP s.1 s.2) (lt : ltP t.1 t.2) (hs : Inside z s) (ht : Inside z t) : meetF s t = 3 ∨ meetF s t = 4 := by
  obtain ⟨s0, s1, s2⟩ := hs
  obtain ⟨t0, t1, t2⟩ := ht
  obtain ⟨p, q, hm⟩ := mid_of s0 s1 s2
  obtain ⟨p', q', hm'⟩ := mid_of t0 t1 t2
  have e1 := hm.cr t.1 t.2
  have e2 := hm'.cr s.1 s.2
  rw [t0, Int.mul_zero] at e1
  rw [s0, Int.mul_zero] at e2
  have hd := cr_id s.1 s.2 t.1 t.2
  by_cases h : cr s.1 s.2 t.1 = 0 ∧ cr s.1 s.2 t.2 = 0
  · refine .inr ((meet_4 s t).2 ⟨h.1, h.2, ?_⟩)
    unfold lowP highP
    rw [ends_lt ls, ends_lt lt]
    have k1 : ltP (if ltP s.1 t.1 then t.1 else s.1) z := by split <;> assumption
    have k2 : ltP z (if ltP t.2 s.2 then t.2 else s.2) := by split <;> assumption
    exact ltP_trans k1 k2
  · refine .inl ((meet_3 s t).2 ?_)
    have n : cr s.1 s.2 t.1 ≠ cr s.1 s.2 t.2 := by
      intro k
      have s3 := sgnc p' (cr s.1 s.2 t.1)
      have s4 := sgnc q' (cr s.1 s.2 t.2)
      have := hm'.1
      have := hm'.2.1
      omega
    exact ⟨opp_of hm'.1 hm'.2.1 e2 n, opp_of hm.1 hm.2.1 e1 (by omega)⟩
/-- Nothing crosses or overlaps the segment, and no end lies in its inner part. -/
structure Free (a f : Sg) : Prop where
  la : ltP a.1 a.2
  lf : ltP f.1 f.2
  m3 : meetF a f ≠ 3
  m4 : meetF a f ≠ 4
  n2 : ∀ z, z = f.1 ∨ z = f.2 → ¬ Inside z a
theorem Free.dbl {a f : Sg} (h : Free a f) : Free (dS a) (dS f) := by
  refine ⟨?_, ?_, fun k => h.m3 ((meet_d3 _ _).1 k), fun k => h.m4 ((meet_d4 h.la h.lf).1 k), ?_⟩
  · unfold dS; simp only []; rw [lt_d]; exact h.la
  · unfold dS; simp only []; rw [lt_d]; exact h.lf
  · rintro z (rfl | rfl) k
    · exact h.n2 f.1 (.inl rfl) ((inside_d _ _).1 k)
    · exact h.n2 f.2 (.inr rfl) ((inside_d _ _).1 k)
theorem Free.clear {a f : Sg} (h : Free a f) : Clear a f := ⟨.inl ⟨h.m3, h.m4⟩, fun z hz h0 h1 h2 => h.n2 z hz ⟨h0, h1, h2⟩⟩
theorem Free.off {a f : Sg} (h : Free a f) {z : Pt} (hz : Inside z a) : ¬ OnS z f := by
  intro ho
  unfold OnS at ho
  rw [ends_lt h.lf] at ho
  by_cases h1 : f.1 = z
  · exact h.n2 f.1 (.inl rfl) (h1 ▸ hz)
  by_cases h2 : f.2 = z
  · exact h.n2 f.2 (.inr rfl) (h2 ▸ hz)
  have k1 := (ltP_total h1).resolve_right ho.2.1
  have k2 := (ltP_total h2).resolve_left ho.2.2
  rcases both_inside h.la h.lf hz ⟨ho.1, k1, k2⟩ with g | g
  · exact h.m3 g
  · exact h.m4 g
/-- On a vertical segment: the same is above all its points but the highest. -/
theorem Free.upright {a f : Sg} (h : Free a f) (hv : a.1.1 = a.2.1) {z y : Pt} (hz : z.1 = a.1.1) (hy : y.1 = a.1.1) (z1 : a.1.2 ≤ z.2) (z2 : z.2 < a.2.2) (y1 : a.1.2 ≤ y.2) (y2 : y.2 < a.2.2) : Pp z f ↔ Pp y f := by
  have main : ∀ z y : Pt, z.1 = a.1.1 → y.1 = a.1.1 → a.1.2 ≤ z.2 → z.2 < a.2.2 → a.1.2 ≤ y.2 → y.2 < a.2.2 → Pp z f → Pp y f := by
    intro z y hz hy z1 z2 y1 y2 ⟨p1, p2, p3⟩
    refine ⟨by omega, by omega, ?_⟩
    apply Int.not_le.1
    intro g
    have e : ∀ u : Pt, u.1 = a.1.1 → cr f.1 f.2 u - cr f.1 f.2 a.1 = (f.2.1 - f.1.1) * (u.2 - a.1.2) := by intro u hu; unfold cr; rw [hu]; grind
    have ez := e z hz
    have ey := e y hy
    have eb := e a.2 hv.symm
    have m1 := Int.mul_nonneg (show 0 ≤ f.2.1 - f.1.1 by omega) (show 0 ≤ z.2 - a.1.2 by omega)
    have m2 := Int.mul_lt_mul_of_pos_left (show y.2 - a.1.2 < a.2.2 - a.1.2 by omega) (show 0 < f.2.1 - f.1.1 by omega)
    have q1 : cr f.1 f.2 a.1 < 0 := by omega
    have q2 : 0 < cr f.1 f.2 a.2 := by omega
    by_cases hx : f.1.1 = a.1.1
    · refine h.n2 f.1 (.inl rfl) ⟨?_, ?_, ?_⟩
      · unfold cr; rw [← hv, hx]; grind
      · refine .inr ⟨hx.symm, ?_⟩
        have e1 : cr f.1 f.2 a.1 = (f.2.1 - f.1.1) * (a.1.2 - f.1.2) := by unfold cr; rw [hx]; grind
        have := (mulp (a := f.2.1 - f.1.1) (x := a.1.2 - f.1.2) (by omega)).2.1.1 (by omega)
        omega
      · refine .inr ⟨hx.trans hv, ?_⟩
        have e1 : cr f.1 f.2 a.2 = (f.2.1 - f.1.1) * (a.2.2 - f.1.2) := by unfold cr; rw [← hv, hx]; grind
        have := (mulp (a := f.2.1 - f.1.1) (x := a.2.2 - f.1.2) (by omega)).1.1 (by omega)
        omega
    · refine h.m3 ((meet_3 _ _).2 ⟨?_, .inl ⟨q1, q2⟩⟩)
      have c1 : cr a.1 a.2 f.1 = (a.2.2 - a.1.2) * (a.1.1 - f.1.1) := by unfold cr; rw [← hv]; grind
      have c2 : cr a.1 a.2 f.2 = - ((a.2.2 - a.1.2) * (f.2.1 - a.1.1)) := by unfold cr; rw [← hv]; grind
      have w1 := Int.mul_pos (show 0 < a.2.2 - a.1.2 by omega) (show 0 < a.1.1 - f.1.1 by omega)
      have w2 := Int.mul_pos (show 0 < a.2.2 - a.1.2 by omega) (show 0 < f.2.1 - a.1.1 by omega)
      exact .inr ⟨by omega, by omega⟩
  exact ⟨main z y hz hy z1 z2 y1 y2, main y z hy hz y1 y2 z1 z2⟩
/-- In a column: what is above a point of the segment (twice as large) is above the segment. -/
theorem Free.column {a f : Sg} (h : Free a f) {M : Pt} (hM : Inside M (dS a)) (hw : a.1.1 < a.2.1) : Pp M (dS f) ↔ Ab a f (M.1 / 2) := by
  have hoff := h.dbl.off hM
  obtain ⟨m0, m1, m2⟩ := hM
  have b1 : 2 * a.1.1 < M.1 := by
    unfold ltP dS dP at m1
    simp only [] at m1
    rcases m1 with m1 | ⟨m1, m1'⟩
    · exact m1
    · unfold cr dS dP at m0
      simp only [] at m0
      rw [← m1] at m0
      have := Int.mul_pos (show 0 < 2 * a.2.1 - 2 * a.1.1 by omega) (show 0 < M.2 - 2 * a.1.2 by omega)
      rw [Int.sub_self, Int.mul_zero] at m0
      omega
  have b2 : M.1 < 2 * a.2.1 := by
    unfold ltP dS dP at m2
    simp only [] at m2
    rcases m2 with m2 | ⟨m2, m2'⟩
    · exact m2
    · unfold cr dS dP at m0
      simp only [] at m0
      rw [m2] at m0
      have := Int.mul_pos (show 0 < 2 * a.2.1 - 2 * a.1.1 by omega) (show 0 < 2 * a.2.2 - M.2 by omega)
      grind
  have id : (a.2.1 - a.1.1) * cr (dP f.1) (dP f.2) M = - (2 * (2 * gap a f (M.1 / 2) + slope a f * (M.1 - 2 * (M.1 / 2)))) := by
    unfold cr dS dP at m0
    simp only [] at m0
    unfold cr dP gap slope
    simp only []
    grind
  have hsg := mulp (a := a.2.1 - a.1.1) (x := cr (dP f.1) (dP f.2) M) (by omega)
  have hst := gap_step a f (M.1 / 2) (M.1 / 2 + 1)
  rw [show M.1 / 2 + 1 - M.1 / 2 = 1 by omega, Int.mul_one] at hst
  unfold Pp Ab
  show 2 * f.1.1 ≤ M.1 ∧ M.1 < 2 * f.2.1 ∧ cr (dP f.1) (dP f.2) M < 0 ↔ _
  have c1 : 2 * f.1.1 ≤ M.1 ↔ f.1.1 ≤ M.1 / 2 := by omega
  have c2 : M.1 < 2 * f.2.1 ↔ M.1 / 2 < f.2.1 := by omega
  rw [c1, c2]
  by_cases g1 : f.1.1 ≤ M.1 / 2
  · by_cases g2 : M.1 / 2 < f.2.1
    · simp only [g1, g2, true_and]
      by_cases ho : M.1 % 2 = 1
      · rw [show M.1 - 2 * (M.1 / 2) = 1 by omega, Int.mul_one] at id
        omega
      · rw [show M.1 - 2 * (M.1 / 2) = 0 by omega, Int.mul_zero, Int.add_zero] at id
        have n1 := n1_w h.clear.w (x := M.1 / 2) (y := M.1 / 2 + 1) ⟨by omega, by omega, by omega, by omega⟩ (by omega)
        have hz : cr (dP f.1) (dP f.2) M ≠ 0 := by
          intro hz
          apply hoff
          unfold OnS
          rw [ends_d h.lf]
          refine ⟨hz, ?_, ?_⟩
          · intro k
            unfold ltP dS dP at k
            simp only [] at k
            have e : M.1 = 2 * f.1.1 ∧ M.2 < 2 * f.1.2 := by omega
            unfold cr dP at hz
            simp only [] at hz
            rw [e.1, Int.sub_self, Int.mul_zero] at hz
            have := Int.mul_pos (show 0 < 2 * f.2.1 - 2 * f.1.1 by omega) (show 0 < 2 * f.1.2 - M.2 by omega)
            grind
          · unfold ltP dS dP
            simp only []
            omega
        omega
    · simp [g2]
  · simp [g1]
/-- .. along the segment. -/
theorem Us_all {n : Nat} {e : Nat → Sg} {t : Nat → Int} (hc : Closed n e t) {a : Sg} (hk : ∀ i, i < n → Free a (e i)) (m : Nat) (h : a.1.1 + m < a.2.1) : Us n e t a (a.1.1 + m) = Us n e t a a.1.1 := by
  induction m with
  | zero => simp
  | succ m ih =>
    rw [← ih (by omega), ← Us_step hc (fun i hi => (hk i hi).lf) (fun i hi => .inl (hk i hi).clear) (x := a.1.1 + (m + 1 : Nat)) (by omega) h]
    congr 1
    omega
theorem Us_eq {n : Nat} {e : Nat → Sg} {t : Nat → Int} (hc : Closed n e t) {a : Sg} (hk : ∀ i, i < n → Free a (e i)) {x y : Int} (h1 : a.1.1 ≤ x) (h2 : x < a.2.1) (h3 : a.1.1 ≤ y) (h4 : y < a.2.1) : Us n e t a x = Us n e t a y := by
  have e1 := Us_all hc hk (x - a.1.1).toNat (by omega)
  have e2 := Us_all hc hk (y - a.1.1).toNat (by omega)
  rw [show a.1.1 + ((x - a.1.1).toNat : Int) = x by omega] at e1
  rw [show a.1.1 + ((y - a.1.1).toNat : Int) = y by omega] at e2
  rw [e1, e2]
/-- The sum above a point, all twice as large. -/
noncomputable def V2 (n : Nat) (e : Nat → Sg) (t : Nat → Int) (M : Pt) : Int := sm n (fun i => t i * ind (Pp M (dS (e i))))
theorem V2_col {n : Nat} {e : Nat → Sg} {t : Nat → Int} {a : Sg} (hk : ∀ i, i < n → Free a (e i)) (hw : a.1.1 < a.2.1) {M : Pt} (hM : Inside M (dS a)) : V2 n e t M = Us n e t a (M.1 / 2) := by
  unfold V2 Us
  exact sm_congr fun i hi => by rw [ind_congr ((hk i hi).column hM hw)]
theorem inside_col {M : Pt} {a : Sg} (hM : Inside M (dS a)) (hw : a.1.1 < a.2.1) : a.1.1 ≤ M.1 / 2 ∧ M.1 / 2 < a.2.1 := by
  obtain ⟨m0, m1, m2⟩ := hM
  unfold ltP dS dP at m1 m2
  simp only [] at m1 m2
  refine ⟨by omega, ?_⟩
  rcases m2 with m2 | ⟨m2, m2'⟩
  · omega
  · unfold cr dS dP at m0
    simp only [] at m0
    rw [m2] at m0
    have := Int.mul_pos (show 0 < 2 * a.2.1 - 2 * a.1.1 by omega) (show 0 < 2 * a.2.2 - M.2 by omega)
    grind
theorem inside_up {M : Pt} {a : Sg} (hM : Inside M (dS a)) (hv : a.1.1 = a.2.1) : M.1 = 2 * a.1.1 ∧ 2 * a.1.2 < M.2 ∧ M.2 < 2 * a.2.2 := by
  obtain ⟨m0, m1, m2⟩ := hM
  unfold ltP dS dP at m1 m2
  simp only [] at m1 m2
  omega
/-- The same is above all inner points of a segment that nothing meets. -/
theorem V2_eq {n : Nat} {e : Nat → Sg} {t : Nat → Int} (hc : Closed n e t) {a : Sg} (la : ltP a.1 a.2) (hk : ∀ i, i < n → Free a (e i)) {M N : Pt} (hM : Inside M (dS a)) (hN : Inside N (dS a)) : V2 n e t M = V2 n e t N := by
  by_cases hw : a.1.1 < a.2.1
  · rw [V2_col hk hw hM, V2_col hk hw hN]
    have := inside_col hM hw
    have := inside_col hN hw
    exact Us_eq hc hk (by omega) (by omega) (by omega) (by omega)
  · have hv : a.1.1 = a.2.1 := by unfold ltP at la; omega
    have k1 := inside_up hM hv
    have k2 := inside_up hN hv
    unfold V2
    refine sm_congr fun i hi => ?_
    rw [ind_congr ((hk i hi).dbl.upright (z := M) (y := N) ?_ ?_ ?_ ?_ ?_ ?_ ?_)]
    all_goals (unfold dS dP; simp only []; omega)
end Go.Proofs.YtlglfcdobbocnaaGreat

/-! A wall and lines within it: to the left of every dart there is an odd number of walls, but for the outside. -/
namespace Go.Proofs.YtlglfcdobbocnaaGreat
theorem sm_trunc {m W : Nat} (h : W ≤ m) (f : Nat → Int) (g : Nat → Int) (h1 : ∀ i, i < W → f i = g i) (h2 : ∀ i, W ≤ i → i < m → f i = 0) : sm m f = sm W g := by
  induction m with
  | zero =>
    obtain rfl : W = 0 := by omega
    rfl
  | succ m ih =>
    by_cases e : W = m + 1
    · subst e; exact sm_congr h1
    · show sm m f + f m = sm W g
      rw [ih (by omega) (fun i a b => h2 i a (by omega)), h2 m (by omega) (by omega), Int.add_zero]
/-- How many edges of a closed way lie to the right of a point. -/
noncomputable def Ring (W : Nat) (w : Nat → Pt) (p : Pt) : Int := sm W (fun i => ind (Hc p (w i) (w (i + 1))))
/-- A wall of simple edges, and lines within it. -/
structure Walled (m : Nat) (F : Nat → Sg) (r : Nat → Nat) (q : Nat → Nat → Pt) (n : Nat) (e : Nat → Sg) (W : Nat) (w : Nat → Pt) (σ : Nat → Int) : Prop extends Pieces m F r q n e where
  le : W ≤ m
  sides : ∀ i, i < W → (σ i = 1 ∧ F i = (w i, w (i + 1))) ∨ (σ i = -1 ∧ F i = (w (i + 1), w i))
  round : w W = w 0
  diff : ∀ i j, i < W → j < W → w i = w j → i = j
  simple : ∀ i i', i < W → i' < W → i ≠ i' → ∀ j, j ≤ r i → ¬ Inside (q i j) (F i')
  lines : ∀ i, W ≤ i → i < m → ∀ j, j < r i → ∃ Y M, Sub (pc q i j) Y ∧ Inside M (dS Y) ∧ (∀ i', i' < W → Free Y (F i')) ∧ Par (Ring W (fun i => dP (w i)) M) 1 ∧
    (∀ z, z = Y.1 ∨ z = Y.2 → (∃ i', i' < W ∧ OnS z (F i')) ∨ Par (Ring W w z) 1)
variable {m : Nat} {F : Nat → Sg} {r : Nat → Nat} {q : Nat → Nat → Pt} {n : Nat} {e : Nat → Sg} {W : Nat} {w : Nat → Pt} {σ : Nat → Int}
theorem Walled.closed_wall (h : Walled m F r q n e W w σ) : Closed W F σ := by
  intro φ
  rw [sm_congr (g := fun i => φ (w i) - φ (w (i + 1))) (fun i hi => by
    rcases h.sides i hi with ⟨a, b⟩ | ⟨a, b⟩ <;> rw [a, b] <;> simp only [] <;> omega), telescope W (fun i => φ (w i)), h.round]
  omega
theorem Walled.closed_d (h : Walled m F r q n e W w σ) : Closed W (fun i => dS (F i)) σ := fun φ => h.closed_wall fun z => φ (dP z)
/-- The weights: the walls' own, none of the lines. -/
def wts (W : Nat) (σ : Nat → Int) (i : Nat) : Int := if i < W then σ i else 0
theorem Walled.closed_all (h : Walled m F r q n e W w σ) : Closed m F (wts W σ) := by
  intro φ
  rw [sm_trunc h.le _ (fun i => σ i * (φ (F i).1 - φ (F i).2)) (fun i hi => by unfold wts; rw [if_pos hi]) (fun i h1 h2 => by unfold wts; rw [if_neg (by omega)]; omega)]
  exact h.closed_wall φ
/-- The walls' weights on the pieces. -/
noncomputable def TW (m : Nat) (r : Nat → Nat) (q : Nat → Nat → Pt) (e : Nat → Sg) (W : Nat) (σ : Nat → Int) (k : Nat) : Int := tw m r q (wts W σ) (e k)
theorem Walled.closedT (h : Walled m F r q n e W w σ) : Closed n e (TW m r q e W σ) := h.toPieces.closed _ h.closed_all
theorem Walled.T_wall (h : Walled m F r q n e W w σ) {k i j : Nat} (hi : i < m) (hj : j < r i) (he : e k = pc q i j) : TW m r q e W σ k = wts W σ i := by
  unfold TW
  rw [he, tw_pc h.toCut _ hi hj]
theorem ring_par {W : Nat} {F : Nat → Sg} {σ : Nat → Int} {w : Nat → Pt} (hl : ∀ i, i < W → ltP (F i).1 (F i).2) (hs : ∀ i, i < W → (σ i = 1 ∧ F i = (w i, w (i + 1))) ∨ (σ i = -1 ∧ F i = (w (i + 1), w i))) (hc : Closed W F σ) {p : Pt} (hn : ∀ i, i < W → ¬ OnS p (F i)) :
    Par (Ring W w p) (sm W (fun i => σ i * ind (Pp p (F i)))) := by
  have h1 : Par (Ring W w p) (sm W (fun i => σ i * Hs p (F i))) := by
    unfold Ring
    refine Par.sum fun i hi => ?_
    have e1 : ind (Hc p (w i) (w (i + 1))) = ind (Hc p (F i).1 (F i).2) := by
      rcases hs i hi with ⟨a, b⟩ | ⟨a, b⟩ <;> rw [b]
      exact ind_congr (Hc_comm _ _ _)
    rw [e1]
    unfold Par
    rcases hs i hi with ⟨a, -⟩ | ⟨a, -⟩ <;> rw [a] <;> rcases hc_hs p (F i) with ⟨c, d⟩ | ⟨c, d | d⟩ <;> rw [c, d] <;> omega
  have h2 : sm W (fun i => σ i * Hs p (F i)) = - sm W (fun i => σ i * ind (Pp p (F i))) := by
    have h := hc fun z => ind (p.1 < z.1 ∧ p.2 < z.2)
    rw [show sm W (fun i => σ i * Hs p (F i)) = sm W (fun i => σ i * Hs p (F i)) + sm W (fun i => σ i * (ind (p.1 < (F i).1.1 ∧ p.2 < (F i).1.2) - ind (p.1 < (F i).2.1 ∧ p.2 < (F i).2.2))) by rw [h]; omega, ← sm_add]
    rw [show - sm W (fun i => σ i * ind (Pp p (F i))) = (-1) * sm W (fun i => σ i * ind (Pp p (F i))) by omega, ← sm_mul]
    refine sm_congr fun i hi => ?_
    rw [hs_pp (hl i hi) (hn i hi)]
    grind
  rw [h2] at h1
  unfold Par at *
  omega
theorem Walled.ltW (h : Walled m F r q n e W w σ) : ∀ i, i < W → ltP (F i).1 (F i).2 := fun i hi => h.lt i (Nat.lt_of_lt_of_le hi h.le)
theorem Walled.ring (h : Walled m F r q n e W w σ) {p : Pt} (hn : ∀ i, i < W → ¬ OnS p (F i)) : Par (Ring W w p) (sm W (fun i => σ i * ind (Pp p (F i)))) :=
  ring_par h.ltW h.sides h.closed_wall hn
theorem Walled.ring_d (h : Walled m F r q n e W w σ) {M : Pt} (hn : ∀ i, i < W → ¬ OnS M (dS (F i))) : Par (Ring W (fun i => dP (w i)) M) (V2 W F σ M) :=
  ring_par (F := fun i => dS (F i)) (fun i hi => by
    show ltP (dP _) (dP _)
    rw [lt_d]
    exact h.ltW i hi) (fun i hi => by
    rcases h.sides i hi with ⟨a, b⟩ | ⟨a, b⟩
    · exact .inl ⟨a, by rw [b]; rfl⟩
    · exact .inr ⟨a, by rw [b]; rfl⟩) h.closed_d hn
/-- The sum above a point, over the pieces or over the walls. -/
theorem Walled.vp (h : Walled m F r q n e W w σ) (p : Pt) : Vp n e (TW m r q e W σ) p = sm W (fun i => σ i * ind (Pp p (F i))) := by
  have h1 := h.toPieces.sum (wts W σ) (fun s => ind (Pp p s))
  unfold Vp TW
  rw [h1]
  refine sm_trunc h.le _ _ (fun i hi => ?_) (fun i h1 h2 => ?_)
  · rw [h.toCut.sum_pp (Nat.lt_of_lt_of_le hi h.le)]
    unfold wts
    rw [if_pos hi]
  · unfold wts
    rw [if_neg (by omega), Int.zero_mul]
/-- To the left of a vertical piece at its lower end. -/
theorem bc_up {x f : Sg} (hp : Apart x f) (hq : Apart f x) (lx : ltP x.1 x.2) (lf : ltP f.1 f.2) (hv : x.1.1 = x.2.1) : Bc x.1 (fwd x) f = ind (Pp x.1 f) := by
  unfold Bc
  by_cases h1 : f.1 = x.1
  · have t := tri_ff hp hq lx lf h1.symm
    have h2 : f.2 ≠ x.1 := fun h => by rw [h1, h] at lf; exact ltP_irrefl _ lf
    rw [ind_false (p := f.2 = x.1 ∧ _) (fun h => h2 h.1)]
    have hpp : ind (Pp x.1 f) = 0 := by rw [← h1]; exact pp_at_1 f
    rw [hpp]
    obtain ⟨⟨a1, a2⟩, b1, b2⟩ := x
    obtain ⟨c, d1, d2⟩ := f
    simp only [] at h1 hv
    subst h1
    subst hv
    unfold angLt low fwd crs ltP at *
    simp only [true_and, Int.sub_self, Int.zero_mul, Int.zero_sub] at *
    have s1 := sgnc (b2 - a2) (d1 - a1)
    simp only [ind_ite]
    clear hp hq h2 hpp
    generalize (b2 - a2) * (d1 - a1) = X at *
    grind
  · rw [ind_false (p := f.1 = x.1 ∧ _) (fun h => h1 h.1), ind_false (p := f.1 = x.1 ∧ _) (fun h => h1 h.1)]
    by_cases h2 : f.2 = x.1
    · rw [ind_false (p := f.2 = x.1 ∧ _)]
      · omega
      · rintro ⟨-, k⟩
        apply k
        clear hp hq k
        obtain ⟨⟨a1, a2⟩, b1, b2⟩ := x
        obtain ⟨⟨c1, c2⟩, d⟩ := f
        simp only [] at h2 hv
        subst h2
        subst hv
        unfold angLt low fwd bwd crs ltP at *
        simp only [Int.sub_self, Int.zero_mul, Int.zero_sub] at *
        have s1 := sgnc (b2 - a2) (c1 - a1)
        generalize (b2 - a2) * (c1 - a1) = X at *
        grind
    · rw [ind_false (p := f.2 = x.1 ∧ _) (fun h => h2 h.1)]
      omega
/-- Beside a piece of a line there is an odd number of walls. -/
theorem Walled.odd (h : Walled m F r q n e W w σ) {k i j : Nat} (hk : k < n) (hi : i < m) (hW : W ≤ i) (hj : j < r i) (he : e k = pc q i j) : Par (Sd n e (TW m r q e W σ) (2 * k)) 1 := by
  obtain ⟨Y, M, hs, hM, hf, hodd, -⟩ := h.lines i hW hi j hj
  have hfig := h.toPieces.figure
  have hoff : ∀ i', i' < W → ¬ OnS M (dS (F i')) := fun i' hi' => (hf i' hi').dbl.off hM
  have hp := (h.ring_d hoff).symm.trans hodd
  have key : Sd n e (TW m r q e W σ) (2 * k) = V2 W F σ M := by
    rw [Sd_even]
    by_cases hw : (pc q i j).1.1 < (pc q i j).2.1
    · have hx : (e k).1.1 < (e k).2.1 := by rw [he]; exact hw
      have hyw := (wide_of hs).1 hw
      rw [← C1 hfig h.closedT hk hx]
      unfold U
      have h1 := h.toPieces.sum (wts W σ) (fun s => ind (Ab (e k) s (e k).1.1))
      unfold TW
      rw [h1, V2_col hf hyw hM]
      have hic := inside_col hM hyw
      have e1 : sm m (fun i' => wts W σ i' * sm (r i') (fun j' => ind (Ab (e k) (pc q i' j') (e k).1.1))) = Us W F σ Y (e k).1.1 := by
        unfold Us
        refine sm_trunc h.le _ _ (fun i' hi' => ?_) (fun i' h1 h2 => ?_)
        · rw [h.toCut.sum_ab (Nat.lt_of_lt_of_le hi' h.le) (he ▸ hs) hyw]
          unfold wts
          rw [if_pos hi']
        · unfold wts
          rw [if_neg (by omega), Int.zero_mul]
      rw [e1]
      have l1 := hs.lo
      have l2 := hs.hi
      rw [he]
      unfold ltP at l1 l2
      exact Us_eq h.closed_wall hf (by omega) (by omega) hic.1 hic.2
    · have hx : (e k).1.1 = (e k).2.1 := by
        have := hfig.lt k hk
        unfold ltP at this
        rw [he] at this ⊢
        omega
      have hyv : Y.1.1 = Y.2.1 := by
        have l := hs.lf
        have := (wide_of hs)
        unfold ltP at l
        omega
      have hTk : TW m r q e W σ k = 0 := by
        rw [h.T_wall hi hj he]
        unfold wts
        rw [if_neg (by omega)]
      have e1 : Bv n e (TW m r q e W σ) (e k).1 (fwd (e k)) = Vp n e (TW m r q e W σ) (e k).1 := by
        unfold Bv Vp
        refine sm_congr fun k' hk' => ?_
        by_cases g : k = k'
        · subst g; rw [hTk, Int.zero_mul, Int.zero_mul]
        · rw [bc_up (hfig.apart k k' hk hk' g) (hfig.apart k' k hk' hk (Ne.symm g)) (hfig.lt k hk) (hfig.lt k' hk') hx]
      rw [e1, h.vp]
      unfold V2
      refine sm_congr fun i' hi' => ?_
      have k1 := inside_up hM hyv
      have l1 := hs.lo
      have l2 := hs.hi
      have l3 := hs.lx
      have c1 := hs.c1
      rw [← he] at l1 l2 l3 c1
      have hcol : (e k).1.1 = Y.1.1 := by
        have ly := hs.lf
        unfold ltP at ly
        have e' : cr Y.1 Y.2 (e k).1 = (Y.2.2 - Y.1.2) * (Y.1.1 - (e k).1.1) := by unfold cr; rw [← hyv]; grind
        have := (mulp (a := Y.2.2 - Y.1.2) (x := Y.1.1 - (e k).1.1) (by omega)).2.2.1 (by omega)
        omega
      unfold ltP at l1 l2 l3
      rw [ind_congr (pp_d (e k).1 (F i')).symm, ind_congr ((hf i' hi').dbl.upright (z := dP (e k).1) (y := M) ?_ ?_ ?_ ?_ ?_ ?_ ?_)]
      all_goals (unfold dS dP; simp only []; omega)
  rw [key]
  exact hp
end Go.Proofs.YtlglfcdobbocnaaGreat

/-! The outside is the one face with an even number of walls: a point is outside just where its face is the outside. -/
namespace Go.Proofs.YtlglfcdobbocnaaGreat
variable {m : Nat} {F : Nat → Sg} {r : Nat → Nat} {q : Nat → Nat → Pt} {n : Nat} {e : Nat → Sg} {W : Nat} {w : Nat → Pt} {σ : Nat → Int}
theorem ind_or_zero {p : Prop} {x : Int} (h : p → x = 0) : x * ind p = 0 := by
  rcases ind_cases p with ⟨a, b⟩ | ⟨a, b⟩ <;> rw [b]
  · rw [h a]; rfl
  · omega
/-- Closed weights that are none on the lines' pieces are the same all round the wall. -/
theorem Walled.chain (h : Walled m F r q n e W w σ) {c : Nat → Int} (hc : Closed n e c) (h0 : ∀ k i j, k < n → i < m → W ≤ i → j < r i → e k = pc q i j → c k = 0) :
    ∀ k i j k' i' j', k < n → i < W → j < r i → e k = pc q i j → k' < n → i' < W → j' < r i' → e k' = pc q i' j' → σ i * c k = σ i' * c k' := by
  have cs : ∃ cs : Sg → Int, ∀ k, k < n → cs (e k) = c k := by
    refine ⟨fun s => sm n (fun k => c k * ind (s = e k)), fun k hk => ?_⟩
    simp only []
    rw [sm_congr (g := fun k' => c k' * ind (k = k')) (fun k' hk' => by
      congr 1
      exact ind_congr ⟨fun g => h.inj k k' hk hk' g, fun g => by rw [g]⟩), sm_pick n k hk]
  obtain ⟨cs, hcs⟩ := cs
  have hW : ∀ i, i < W → i < m := fun i hi => Nat.lt_of_lt_of_le hi h.le
  have sum : ∀ φ : Pt → Int, sm W (fun i => sm (r i) (fun j => cs (pc q i j) * (φ (q i j) - φ (q i (j + 1))))) = 0 := by
    intro φ
    have h1 := hc φ
    rw [sm_congr (g := fun k => (fun s : Sg => cs s * (φ s.1 - φ s.2)) (e k)) (fun k hk => by simp only []; rw [hcs k hk]), h.perm (fun s => cs s * (φ s.1 - φ s.2))] at h1
    rw [← h1]
    symm
    refine sm_trunc h.le _ _ (fun i hi => rfl) (fun i h1 h2 => ?_)
    rw [sm_congr (g := fun _ => 0) (fun j hj => by
      obtain ⟨k, hk, he⟩ := h.all i h2 j hj
      have := h0 k i j hk h2 h1 hj he
      rw [← he, hcs k hk, this, Int.zero_mul]), sm_zero]
  have step1 : ∀ i, i < W → ∀ j, j + 1 < r i → cs (pc q i (j + 1)) = cs (pc q i j) := by
    intro i hi j hj
    have s := sum fun z => ind (z = q i (j + 1))
    have hin : Inside (q i (j + 1)) (F i) := by
      refine ⟨h.qon i (hW i hi) _ (by omega), ?_, ?_⟩
      · rw [← h.q0 i (hW i hi)]; exact h.toCut.mono (hW i hi) (by omega) (by omega)
      · rw [← h.qr i (hW i hi)]; exact h.toCut.mono (hW i hi) (by omega) (by omega)
    rw [sm_congr (g := fun i' => (cs (pc q i (j + 1)) - cs (pc q i j)) * ind (i = i')) (fun i' hi' => by
      by_cases g : i = i'
      · subst g
        rw [ind_true rfl, Int.mul_one]
        rw [sm_congr (g := fun j' => cs (pc q i j') * ind (j + 1 = j') - cs (pc q i j') * ind (j = j')) (fun j' hj' => by
          rw [← Int.mul_sub]
          congr 2
          · refine ind_congr ?_
            rw [(h.toCut.mono_iff (hW i hi) (j := j') (k := j + 1) (by omega) (by omega)).2]
            omega
          · refine ind_congr ?_
            rw [(h.toCut.mono_iff (hW i hi) (j := j' + 1) (k := j + 1) (by omega) (by omega)).2]
            omega), sm_sub, sm_pick (r i) (j + 1) hj (fun j' => cs (pc q i j')), sm_pick (r i) j (by omega) (fun j' => cs (pc q i j'))]
      · rw [ind_false g, Int.mul_zero, sm_congr (g := fun _ => 0) (fun j' hj' => by
          rw [ind_false (p := q i' j' = q i (j + 1)) (fun k => h.simple i' i hi' hi (Ne.symm g) j' (by omega) (by rw [k]; exact hin)), ind_false (p := q i' (j' + 1) = q i (j + 1)) (fun k => h.simple i' i hi' hi (Ne.symm g) (j' + 1) (by omega) (by rw [k]; exact hin))]
          omega), sm_zero]), sm_pick W i hi (fun _ => cs (pc q i (j + 1)) - cs (pc q i j))] at s
    omega
  have all1 : ∀ i, i < W → ∀ j, j < r i → cs (pc q i j) = cs (pc q i 0) := by
    intro i hi j
    induction j with
    | zero => intro _; rfl
    | succ j ih => intro hj; rw [step1 i hi j hj]; exact ih (by omega)
  have sum2 : ∀ φ : Pt → Int, sm W (fun i => (σ i * cs (pc q i 0)) * (φ (w i) - φ (w (i + 1)))) = 0 := by
    intro φ
    rw [← sum φ]
    refine sm_congr fun i hi => ?_
    rw [sm_congr (g := fun j => cs (pc q i 0) * (φ (q i j) - φ (q i (j + 1)))) (fun j hj => by rw [all1 i hi j hj]), sm_mul, telescope (r i) (fun j => φ (q i j)), h.q0 i (hW i hi), h.qr i (hW i hi)]
    rcases h.sides i hi with ⟨a, b⟩ | ⟨a, b⟩ <;> rw [a, b] <;> simp only [] <;> grind
  have step2 : ∀ i, i + 1 < W → σ (i + 1) * cs (pc q (i + 1) 0) = σ i * cs (pc q i 0) := by
    intro i hi
    have s := sum2 fun z => ind (z = w (i + 1))
    rw [sm_congr (g := fun i' => (σ i' * cs (pc q i' 0)) * ind (i + 1 = i') - (σ i' * cs (pc q i' 0)) * ind (i = i')) (fun i' hi' => by
      rw [← Int.mul_sub]
      congr 2
      · exact ind_congr ⟨fun g => (h.diff _ _ hi' hi g).symm, fun g => by rw [g]⟩
      · refine ind_congr ⟨fun g => ?_, fun g => by rw [g]⟩
        by_cases k : i' + 1 = W
        · rw [k, h.round] at g
          have := h.diff 0 (i + 1) (by omega) hi g
          omega
        · have := h.diff (i' + 1) (i + 1) (by omega) hi g
          omega), sm_sub, sm_pick W (i + 1) hi (fun i' => σ i' * cs (pc q i' 0)), sm_pick W i (by omega) (fun i' => σ i' * cs (pc q i' 0))] at s
    omega
  have all2 : ∀ i, i < W → σ i * cs (pc q i 0) = σ 0 * cs (pc q 0 0) := by
    intro i
    induction i with
    | zero => intro _; rfl
    | succ i ih => intro hi; rw [step2 i hi]; exact ih (by omega)
  intro k i j k' i' j' hk hi hj he hk' hi' hj' he'
  rw [← hcs k hk, ← hcs k' hk', he, he', all1 i hi j hj, all1 i' hi' j' hj', all2 i hi, all2 i' hi']
/-- A map of a wall: its faces too. -/
structure Mapped (m : Nat) (F : Nat → Sg) (r : Nat → Nat) (q : Nat → Nat → Pt) (n : Nat) (e : Nat → Sg) (W : Nat) (w : Nat → Pt) (σ : Nat → Int) (nxt : Nat → Nat) (face : Nat → Int) : Prop where
  walled : Walled m F r q n e W w σ
  faced : Faced n e nxt face
  orb : ∀ D : Nat → Int, (∀ d, d < 2 * n → D (nxt d) = D d) → ∀ d d', d < 2 * n → d' < 2 * n → face d = face d' → D d = D d'
variable {nxt : Nat → Nat} {face : Nat → Int}
theorem Mapped.same (h : Mapped m F r q n e W w σ nxt face) {d d' : Nat} (hd : d < 2 * n) (hd' : d' < 2 * n) (hf : face d = face d') : Sd n e (TW m r q e W σ) d = Sd n e (TW m r q e W σ) d' :=
  h.orb _ (fun _ hd => h.faced.web.step h.walled.closedT hd) d d' hd hd' hf
theorem Mapped.outside (h : Mapped m F r q n e W w σ nxt face) {d : Nat} (hd : d < 2 * n) (hf : face d = 0) : Sd n e (TW m r q e W σ) d = 0 := by
  obtain ⟨d0, hd0, ht, h0⟩ := h.faced.top
  rw [h.same hd hd0 (hf.trans h0.symm)]
  exact ht _ h.walled.closedT
/-- In no other face there is an even number of walls. -/
theorem Mapped.inside (h : Mapped m F r q n e W w σ nxt face) {d : Nat} (hd : d < 2 * n) (hf : face d ≠ 0) : ¬ Par (Sd n e (TW m r q e W σ) d) 0 := by
  intro hev
  obtain ⟨d0, hd0, ht, h0⟩ := h.faced.top
  have hfig := h.walled.toPieces.figure
  have hcl := h.walled.closedT
  have hlines : ∀ k i j, k < n → i < m → W ≤ i → j < r i → e k = pc q i j → Par (Sd n e (TW m r q e W σ) (2 * k)) 1 ∧ Par (Sd n e (TW m r q e W σ) (2 * k + 1)) 1 := by
    intro k i j hk hi hW hj he
    have h1 := h.walled.odd hk hi hW hj he
    refine ⟨h1, ?_⟩
    rw [Sd_rev hfig hcl hk, h.walled.T_wall hi hj he]
    unfold wts
    rw [if_neg (by omega), Int.add_zero]
    exact h1
  have zero : ∀ g : Int, (∀ d', d' < 2 * n → face d' = g → Par (Sd n e (TW m r q e W σ) d') 0) → ∀ k i j, k < n → i < m → W ≤ i → j < r i → e k = pc q i j → tau (chi face g) k = 0 := by
    intro g hg k i j hk hi hW hj he
    have := hlines k i j hk hi hW hj he
    unfold tau chi
    rw [ind_false (p := face (2 * k + 1) = g) (fun x => by
      have := hg _ (by omega) x
      unfold Par at *
      omega), ind_false (p := face (2 * k) = g) (fun x => by
      have := hg _ (by omega) x
      unfold Par at *
      omega)]
    rfl
  have g1 : ∀ d', d' < 2 * n → face d' = face d → Par (Sd n e (TW m r q e W σ) d') 0 := fun d' hd' x => by rw [h.same hd' hd x]; exact hev
  have g0 : ∀ d', d' < 2 * n → face d' = 0 → Par (Sd n e (TW m r q e W σ) d') 0 := fun d' hd' x => by rw [h.outside hd' x]; exact Par.refl 0
  have flip : ∀ k i j, k < n → i < W → j < r i → e k = pc q i j → ¬ (Par (Sd n e (TW m r q e W σ) (2 * k)) 0 ∧ Par (Sd n e (TW m r q e W σ) (2 * k + 1)) 0) := by
    intro k i j hk hi hj he ⟨a, b⟩
    have hi' := Nat.lt_of_lt_of_le hi h.walled.le
    rw [Sd_rev hfig hcl hk, h.walled.T_wall hi' hj he] at b
    unfold wts at b
    rw [if_pos hi] at b
    unfold Par at a b
    rcases h.walled.sides i hi with ⟨s, -⟩ | ⟨s, -⟩ <;> rw [s] at b <;> omega
  have wall : ∀ d', d' < 2 * n → Par (Sd n e (TW m r q e W σ) d') 0 → ∃ i j, i < W ∧ j < r i ∧ e (d' / 2) = pc q i j := by
    intro d' hd' hp
    obtain ⟨i, hi, j, hj, he⟩ := h.walled.mem (d' / 2) (by omega)
    by_cases hW : i < W
    · exact ⟨i, j, hW, hj, he⟩
    · have hl := hlines (d' / 2) i j (by omega) hi (by omega) hj he
      have : d' = 2 * (d' / 2) ∨ d' = 2 * (d' / 2) + 1 := by omega
      rcases this with k | k
      · have hl := hl.1
        rw [← k] at hl
        unfold Par at hp hl
        omega
      · have hl := hl.2
        rw [← k] at hl
        unfold Par at hp hl
        omega
  have unit : ∀ g : Int, (∀ d', d' < 2 * n → face d' = g → Par (Sd n e (TW m r q e W σ) d') 0) → ∀ d', d' < 2 * n → face d' = g → tau (chi face g) (d' / 2) ≠ 0 := by
    intro g hg d' hd' hx
    obtain ⟨i, j, hi, hj, he⟩ := wall d' hd' (hg d' hd' hx)
    have hfl := flip _ i j (by omega) hi hj he
    unfold tau chi
    have : d' = 2 * (d' / 2) ∨ d' = 2 * (d' / 2) + 1 := by omega
    rcases this with k | k
    · have a1 : face (2 * (d' / 2)) = g := by rw [← k]; exact hx
      have a2 : face (2 * (d' / 2) + 1) ≠ g := fun x => hfl ⟨hg _ (by omega) a1, hg _ (by omega) x⟩
      rw [ind_true a1, ind_false a2]
      omega
    · have a1 : face (2 * (d' / 2) + 1) = g := by rw [← k]; exact hx
      have a2 : face (2 * (d' / 2)) ≠ g := fun x => hfl ⟨hg _ (by omega) x, hg _ (by omega) a1⟩
      rw [ind_true a1, ind_false a2]
      omega
  obtain ⟨i, j, hi, hj, he⟩ := wall d hd hev
  obtain ⟨i', j', hi', hj', he'⟩ := wall d0 hd0 (g0 d0 hd0 h0)
  have u0 := unit 0 g0 d0 hd0 h0
  have c0 := h.walled.chain (h.faced.closed 0) (zero 0 g0) (d / 2) i j (d0 / 2) i' j' (by omega) hi hj he (by omega) hi' hj' he'
  have n0 : tau (chi face 0) (d / 2) ≠ 0 := by
    intro x
    rw [x, Int.mul_zero] at c0
    rcases h.walled.sides i' hi' with ⟨s, -⟩ | ⟨s, -⟩ <;> rw [s] at c0 <;> omega
  have ex : ∃ d', d' / 2 = d / 2 ∧ d' < 2 * n ∧ face d' = 0 := by
    unfold tau chi at n0
    by_cases a : face (2 * (d / 2)) = 0
    · exact ⟨2 * (d / 2), by omega, by omega, a⟩
    · by_cases b : face (2 * (d / 2) + 1) = 0
      · exact ⟨2 * (d / 2) + 1, by omega, by omega, b⟩
      · rw [ind_false a, ind_false b] at n0
        exact absurd rfl n0
  obtain ⟨d', e1, hd', f0⟩ := ex
  have hfl := flip (d / 2) i j (by omega) hi hj he
  have p' := g0 d' hd' f0
  have : d = d' := by
    have a : d = 2 * (d / 2) ∨ d = 2 * (d / 2) + 1 := by omega
    have b : d' = 2 * (d / 2) ∨ d' = 2 * (d / 2) + 1 := by omega
    rcases a with a | a <;> rcases b with b | b
    · omega
    · exact absurd ⟨a ▸ hev, b ▸ p'⟩ hfl
    · exact absurd ⟨b ▸ p', a ▸ hev⟩ hfl
    · omega
  rw [this] at hf
  exact hf f0
/-- A point on a segment is on a piece of it. -/
theorem Cut.on {m : Nat} {F : Nat → Sg} {r : Nat → Nat} {q : Nat → Nat → Pt} (h : Cut m F r q) {i : Nat} (hi : i < m) {p : Pt} (hp : OnS p (F i)) : ∃ j, j < r i ∧ OnS p (pc q i j) := by
  unfold OnS at hp
  rw [ends_lt (h.lt i hi)] at hp
  obtain ⟨h0, h1, h2⟩ := hp
  have key : ∀ k, k ≤ r i → 0 < k → ¬ ltP (q i k) p → ∃ j, j < r i ∧ OnS p (pc q i j) := by
    intro k
    induction k with
    | zero => intro _ h; omega
    | succ k ih =>
      intro hk _ hn
      by_cases g : ltP p (q i k)
      · by_cases g0 : k = 0
        · subst g0
          rw [h.q0 i hi] at g
          exact absurd g h1
        · exact ih (by omega) (by omega) (ltP_asymm g)
      · refine ⟨k, by omega, ?_⟩
        unfold OnS
        have hs := h.sub hi (j := k) (by omega)
        rw [ends_lt hs.lx]
        exact ⟨(hs.sign p).2.2.2 h0, g, hn⟩
  refine key (r i) (Nat.le_refl _) ?_ (by rw [h.qr i hi]; exact h2)
  apply Nat.pos_of_ne_zero
  intro k
  have a := h.q0 i hi
  have b := h.qr i hi
  have c := h.lt i hi
  rw [k] at b
  rw [← a, ← b] at c
  exact ltP_irrefl _ c
theorem Cut.on_of {m : Nat} {F : Nat → Sg} {r : Nat → Nat} {q : Nat → Nat → Pt} (h : Cut m F r q) {i j : Nat} (hi : i < m) (hj : j < r i) {p : Pt} (hp : OnS p (pc q i j)) : OnS p (F i) := by
  have hs := h.sub hi hj
  unfold OnS at *
  rw [ends_lt hs.lx] at hp
  rw [ends_lt hs.lf]
  exact ⟨(hs.sign p).2.2.1 hp.1, fun k => hs.lo (ltP_of_le hp.2.1 k) , fun k => hs.hi (ltP_of_lt k hp.2.2)⟩
/-- A point that is on no piece is outside just where its face is. -/
theorem Mapped.where_ (h : Mapped m F r q n e W w σ nxt face) {p : Pt} (hn : ∀ k, k < n → ¬ OnS p (e k)) {a : Int} (ha : AtIs n e face p a) : (∀ i, i < W → ¬ OnS p (F i)) ∧ (a = 0 ↔ Par (Ring W w p) 0) := by
  have hoff : ∀ i, i < W → ¬ OnS p (F i) := by
    intro i hi ho
    have hi' := Nat.lt_of_lt_of_le hi h.walled.le
    obtain ⟨j, hj, ho⟩ := h.walled.toCut.on hi' ho
    obtain ⟨k, hk, he⟩ := h.walled.all i hi' j hj
    exact hn k hk (he ▸ ho)
  refine ⟨hoff, ?_⟩
  have h1 := h.walled.ring hoff
  rw [← h.walled.vp] at h1
  have hfig := h.walled.toPieces.figure
  rcases ha with ⟨k, hk, hp, hl, rfl⟩ | ⟨hz, rfl⟩
  · rw [V_at hfig h.walled.closedT hk hp hl] at h1
    by_cases g : face (2 * k + 1) = 0
    · rw [h.outside (by omega) g] at h1
      exact ⟨fun _ => h1, fun _ => g⟩
    · have := h.inside (d := 2 * k + 1) (by omega) g
      refine ⟨fun x => absurd x g, fun x => absurd ?_ this⟩
      exact h1.symm.trans x
  · rw [V_none hz] at h1
    exact ⟨fun _ => h1, fun _ => rfl⟩
/-- A point on a piece is on the wall or inside it. -/
theorem Walled.on (h : Walled m F r q n e W w σ) {p : Pt} {k : Nat} (hk : k < n) (hp : OnS p (e k)) : (∃ i, i < W ∧ OnS p (F i)) ∨ Par (Ring W w p) 1 := by
  obtain ⟨i, hi, j, hj, he⟩ := h.mem k hk
  rw [he] at hp
  by_cases hW : i < W
  · exact .inl ⟨i, hW, h.toCut.on_of hi hj hp⟩
  obtain ⟨Y, M, hs, hM, hf, hodd, hends⟩ := h.lines i (by omega) hi j hj
  unfold OnS at hp
  rw [ends_lt hs.lx] at hp
  obtain ⟨p0, p1, p2⟩ := hp
  by_cases g1 : p = Y.1
  · exact hends p (.inl g1)
  by_cases g2 : p = Y.2
  · exact hends p (.inr g2)
  have l1 : ¬ ltP p Y.1 := fun k => hs.lo (ltP_of_le p1 k)
  have l2 : ¬ ltP Y.2 p := fun k => hs.hi (ltP_of_lt k p2)
  have hin : Inside p Y := ⟨(hs.sign p).2.2.1 p0, (ltP_total (Ne.symm g1)).resolve_right l1, (ltP_total g2).resolve_right l2⟩
  have hoff : ∀ i', i' < W → ¬ OnS p (F i') := fun i' hi' => (hf i' hi').off hin
  have e1 := V2_eq h.closed_wall hs.lf hf ((inside_d p Y).2 hin) hM
  have e2 : V2 W F σ (dP p) = sm W (fun i => σ i * ind (Pp p (F i))) := by
    unfold V2
    exact sm_congr fun i _ => by rw [ind_congr (pp_d p (F i))]
  have h1 := h.ring hoff
  have h2 := h.ring_d (fun i' hi' => (hf i' hi').dbl.off hM)
  rw [← e2, e1] at h1
  exact .inr (h1.trans (h2.symm.trans hodd))
end Go.Proofs.YtlglfcdobbocnaaGreat
