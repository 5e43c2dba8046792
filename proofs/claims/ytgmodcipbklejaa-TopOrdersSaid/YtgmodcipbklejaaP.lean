/- The plain law of TopTrue and TopOrders: what is shown, seen, counted; ranks. -/
namespace Go.Proofs.Ytgmodcipbklejaa
structure Obs where
  id : Int
  known : Int
  reader : Int
  kind : Int
  a : Int
  b : Int
  vo : Int
  deriving DecidableEq
/-- What is seen of the pair number i. -/
def obsF (d : List Int) (i : Nat) (p : Int × Int) : Obs :=
  if d.getD p.2.toNat 0 < d.getD p.1.toNat 0 then ⟨(i : Int) + 1, 0, 1, 1, p.2 + 1, p.1 + 1, 0⟩ else ⟨(i : Int) + 1, 0, 1, 1, p.1 + 1, p.2 + 1, 0⟩
def shownF (d : List Int) (near : List (Int × Int)) : List Obs := near.mapIdx (obsF d)
theorem shown_len {d : List Int} {near : List (Int × Int)} : (shownF d near).length = near.length := by simp [shownF]
theorem shown_get {d : List Int} {near : List (Int × Int)} {i : Nat} (h : i < (shownF d near).length) : (shownF d near)[i] = obsF d i (near[i]'(by simpa [shownF] using h)) := by
  simp [shownF]
theorem shown_succ {d : List Int} {near : List (Int × Int)} {k : Nat} (h : k < near.length) : shownF d (near.take (k + 1)) = shownF d (near.take k) ++ [obsF d k near[k]] := by
  unfold shownF
  rw [List.take_succ_eq_append_getElem h, List.mapIdx_append]
  have e : (near.take k).length = k := by simp; omega
  simp [e]

/-- An observation that says that one thing is over another one. -/
def OverOk (n : Int) (x : Obs) : Prop := x.kind = 1 ∧ 1 ≤ x.a ∧ x.a ≤ n ∧ 1 ≤ x.b ∧ x.b ≤ n ∧ x.a ≠ x.b ∧ x.vo = 0 ∧ x.reader = 1

/-- One more is seen. -/
def seenOne (l : List Obs) (out : List Obs) (k : Int) : Obs :=
  if k.toNat % 2 = 1 ∧ out ≠ [] ∧ (out.getD (out.length - 1) ⟨0, 0, 0, 0, 0, 0, 0⟩).kind ≠ 4 then
    ⟨(out.length : Int) + 1, ((out.length / 2 : Nat) : Int), 1, 4, 0, 0, (out.getD (out.length - 1) ⟨0, 0, 0, 0, 0, 0, 0⟩).id⟩
  else { l.getD (k.toNat / 2 % l.length) ⟨0, 0, 0, 0, 0, 0, 0⟩ with id := (out.length : Int) + 1, known := ((out.length / 2 : Nat) : Int) }
def seenF (l : List Obs) (picks : List Int) : List Obs := if l = [] then [] else picks.foldl (fun out k => out ++ [seenOne l out k]) []
theorem seen_len {l : List Obs} (hl : l ≠ []) : ∀ picks : List Int, (seenF l picks).length = picks.length := by
  intro picks
  unfold seenF
  rw [if_neg hl]
  have key : ∀ (p : List Int) (o : List Obs), (p.foldl (fun out k => out ++ [seenOne l out k]) o).length = o.length + p.length := by
    intro p
    induction p with
    | nil => intro o; simp
    | cons k p ih => intro o; rw [List.foldl_cons, ih]; simp; omega
  simpa using key picks []
theorem seen_succ {l : List Obs} (hl : l ≠ []) {picks : List Int} {k : Nat} (h : k < picks.length) : seenF l (picks.take (k + 1)) = seenF l (picks.take k) ++ [seenOne l (seenF l (picks.take k)) picks[k]] := by
  unfold seenF
  rw [if_neg hl, if_neg hl, List.take_succ_eq_append_getElem h, List.foldl_append]
  rfl

/-- The observation number i of s is right. -/
def RightAt (n : Int) (s : List Obs) (i : Nat) (x : Obs) : Prop :=
  x.id = (i : Int) + 1 ∧ x.reader = 1 ∧ 0 ≤ x.known ∧ x.known ≤ 100000 ∧
  (x.kind = 1 ∧ 1 ≤ x.a ∧ x.a ≤ n ∧ 1 ≤ x.b ∧ x.b ≤ n ∧ x.a ≠ x.b ∧ x.vo = 0 ∨
   x.kind = 4 ∧ x.a = 0 ∧ x.b = 0 ∧ ∃ j y, j < i ∧ x.vo = (j : Int) + 1 ∧ s[j]? = some y ∧ y.kind = 1)
/-- A list of observations that Check takes. -/
def Right (n : Int) (s : List Obs) : Prop := (∀ i x, s[i]? = some x → RightAt n s i x) ∧ ∀ i x y, s[i]? = some x → s[i + 1]? = some y → x.known ≤ y.known
theorem Right.nil (n : Int) : Right n [] := ⟨fun i x h => by simp at h, fun i x y h => by simp at h⟩
theorem Right.snoc {n : Int} {s : List Obs} {x : Obs} (h : Right n s) (hx : RightAt n s s.length x) (hk : ∀ y, s[s.length - 1]? = some y → y.known ≤ x.known) : Right n (s ++ [x]) := by
  have up : ∀ {i z}, RightAt n s i z → RightAt n (s ++ [x]) i z := by
    rintro i z ⟨h1, h2, h3, h4, h5⟩
    refine ⟨h1, h2, h3, h4, h5.imp id ?_⟩
    rintro ⟨h6, h7, h8, j, y, hj, hv, hs, hy⟩
    exact ⟨h6, h7, h8, j, y, hj, hv, by rw [List.getElem?_append_left (List.getElem?_eq_some_iff.1 hs).1]; exact hs, hy⟩
  refine ⟨fun i z hz => ?_, fun i y z hy hz => ?_⟩
  · by_cases hi : i < s.length
    · rw [List.getElem?_append_left hi] at hz
      exact up (h.1 i z hz)
    · rw [List.getElem?_append_right (by omega)] at hz
      have : i = s.length := by
        have := (List.getElem?_eq_some_iff.1 hz).1
        simp at this
        omega
      subst this
      simp at hz
      subst hz
      exact up hx
  · have hi1 : i < s.length := by
      have := (List.getElem?_eq_some_iff.1 hz).1
      simp at this
      omega
    rw [List.getElem?_append_left hi1] at hy
    by_cases hi : i + 1 < s.length
    · rw [List.getElem?_append_left hi] at hz
      exact h.2 i y z hy hz
    · have : i + 1 = s.length := by omega
      rw [List.getElem?_append_right (by omega)] at hz
      simp [this] at hz
      subst hz
      exact hk y (by rw [← this]; simpa using hy)
/-- What every step keeps: the list is right, and its last one has the day of its place. -/
theorem seen_right {n : Int} {l : List Obs} (hl : ∀ x ∈ l, OverOk n x) {picks : List Int} (hp : picks.length ≤ 20) : Right n (seenF l picks) ∧ ∀ i x, (seenF l picks)[i]? = some x → x.known = ((i / 2 : Nat) : Int) ∧ (x.kind = 1 → ∃ y ∈ l, x.a = y.a ∧ x.b = y.b) := by
  by_cases hnil : l = []
  · have : seenF l picks = [] := by unfold seenF; rw [if_pos hnil]
    rw [this]
    exact ⟨Right.nil n, fun i x h => by simp at h⟩
  have main : ∀ k, k ≤ picks.length → Right n (seenF l (picks.take k)) ∧ ∀ i x, (seenF l (picks.take k))[i]? = some x → x.known = ((i / 2 : Nat) : Int) ∧ (x.kind = 1 → ∃ y ∈ l, x.a = y.a ∧ x.b = y.b) := by
    intro k
    induction k with
    | zero =>
      intro _
      have : seenF l (picks.take 0) = [] := by unfold seenF; rw [if_neg hnil]; rfl
      rw [this]
      exact ⟨Right.nil n, fun i x h => by simp at h⟩
    | succ k ih =>
      intro hk
      obtain ⟨hr, hkn⟩ := ih (by omega)
      have hlen : (seenF l (picks.take k)).length = k := by rw [seen_len hnil]; simp; omega
      have hkl : k < picks.length := by omega
      rw [seen_succ hnil hkl]
      clear ih
      obtain ⟨pk, hpk⟩ : ∃ x, picks[k] = x := ⟨_, rfl⟩
      rw [hpk]
      generalize seenF l (picks.take k) = s at *
      have hone : RightAt n s s.length (seenOne l s pk) ∧ (seenOne l s pk).known = ((s.length / 2 : Nat) : Int) ∧ ((seenOne l s pk).kind = 1 → ∃ y ∈ l, (seenOne l s pk).a = y.a ∧ (seenOne l s pk).b = y.b) := by
        unfold seenOne
        split
        · rename_i hc
          obtain ⟨hc1, hc2, hc3⟩ := hc
          have hpos : 0 < s.length := List.length_pos_iff.2 hc2
          have hget : s[s.length - 1]? = some (s[s.length - 1]'(by omega)) := List.getElem?_eq_getElem (by omega)
          have hgd : s.getD (s.length - 1) ⟨0, 0, 0, 0, 0, 0, 0⟩ = s[s.length - 1]'(by omega) := by rw [List.getD_eq_getElem?_getD, hget]; rfl
          rw [hgd] at hc3 ⊢
          obtain ⟨e1, -, -, -, e5⟩ := hr.1 _ _ hget
          have e6 : (s[s.length - 1]'(by omega)).kind = 1 := by
            rcases e5 with e5 | e5
            · exact e5.1
            · exact absurd e5.1 hc3
          refine ⟨⟨rfl, rfl, by simp only []; omega, by simp only []; omega, .inr ⟨rfl, rfl, rfl, s.length - 1, _, by omega, ?_, hget, e6⟩⟩, rfl, fun h => by simp at h⟩
          simp only []
          rw [e1]
        · have hm : k < picks.length := by omega
          have hpl : 0 < l.length := List.length_pos_iff.2 hnil
          have hlt : pk.toNat / 2 % l.length < l.length := Nat.mod_lt _ hpl
          have hgd : l.getD (pk.toNat / 2 % l.length) ⟨0, 0, 0, 0, 0, 0, 0⟩ = l[pk.toNat / 2 % l.length] := by rw [List.getD_eq_getElem?_getD, List.getElem?_eq_getElem hlt]; rfl
          rw [hgd]
          have hmem := List.getElem_mem hlt
          obtain ⟨h1, h2, h3, h4, h5, h6, h7, h8⟩ := hl _ hmem
          exact ⟨⟨rfl, h8, by simp only []; omega, by simp only []; omega, .inl ⟨h1, h2, h3, h4, h5, h6, h7⟩⟩, rfl, fun _ => ⟨_, hmem, rfl, rfl⟩⟩
      obtain ⟨h1, h2, h3⟩ := hone
      refine ⟨hr.snoc h1 fun y hy => ?_, fun i x hx => ?_⟩
      · rw [h2, (hkn _ _ hy).1]
        omega
      · by_cases hi : i < s.length
        · rw [List.getElem?_append_left hi] at hx
          exact hkn i x hx
        · rw [List.getElem?_append_right (by omega)] at hx
          have : i = s.length := by
            have := (List.getElem?_eq_some_iff.1 hx).1
            simp at this
            omega
          subst this
          simp at hx
          subst hx
          exact ⟨h2, h3⟩
  have := main picks.length (Nat.le_refl _)
  rwa [List.take_length] at this
/-- Is the observation number id taken back? -/
def voidB (s : List Obs) (K id : Int) : Bool := s.any fun y => y.kind == 4 && decide (y.known ≤ K) && y.vo == id
def countB (s : List Obs) (K : Int) (x : Obs) : Bool := decide (1 ≤ x.kind ∧ x.kind ≤ 3) && decide (x.known ≤ K) && !voidB s K x.id
def countF (s : List Obs) (K : Int) : List Obs := s.filter (countB s K)

theorem count_over {n : Int} {s : List Obs} (h : Right n s) (K : Int) : ∀ x ∈ countF s K, x.kind = 1 ∧ 1 ≤ x.a ∧ x.a ≤ n ∧ 1 ≤ x.b ∧ x.b ≤ n ∧ x.a ≠ x.b ∧ 1 ≤ x.id ∧ x ∈ s := by
  intro x hx
  obtain ⟨h1, h2⟩ := List.mem_filter.1 hx
  obtain ⟨i, hi, e⟩ := List.getElem_of_mem h1
  obtain ⟨g1, g2, g3, g4, g5⟩ := h.1 i x (by rw [List.getElem?_eq_getElem hi, e])
  rcases g5 with g5 | g5
  · exact ⟨g5.1, g5.2.1, g5.2.2.1, g5.2.2.2.1, g5.2.2.2.2.1, g5.2.2.2.2.2.1, by omega, h1⟩
  · exfalso
    unfold countB at h2
    simp [g5.1] at h2
/-- What is shown of days is so. -/
theorem shown_over {n : Int} {d : List Int} {near : List (Int × Int)} (hn : ∀ x ∈ near, 0 ≤ x.1 ∧ x.1 < n ∧ 0 ≤ x.2 ∧ x.2 < n ∧ x.1 ≠ x.2) : ∀ x ∈ shownF d near, OverOk n x := by
  intro x hx
  obtain ⟨i, hi, rfl⟩ := List.getElem_of_mem hx
  rw [shown_get]
  have := hn _ (List.getElem_mem (by simpa [shownF] using hi : i < near.length))
  unfold obsF OverOk
  split <;> simp <;> omega
theorem shown_true {n : Int} {d : List Int} {near : List (Int × Int)} (hn : ∀ x ∈ near, 0 ≤ x.1 ∧ x.1 < n ∧ 0 ≤ x.2 ∧ x.2 < n ∧ x.1 ≠ x.2) (hd : ∀ a b : Nat, (a : Int) < n → (b : Int) < n → a ≠ b → d.getD a 0 ≠ d.getD b 0) :
    ∀ x ∈ shownF d near, d.getD (x.a - 1).toNat 0 < d.getD (x.b - 1).toNat 0 := by
  intro x hx
  obtain ⟨i, hi, rfl⟩ := List.getElem_of_mem hx
  rw [shown_get]
  have h := hn _ (List.getElem_mem (by simpa [shownF] using hi : i < near.length))
  generalize near[i]'(by simpa [shownF] using hi) = p at *
  have h2 := hd p.1.toNat p.2.toNat (by omega) (by omega) (by omega)
  unfold obsF
  split
  · rename_i h3
    simp only [Int.add_sub_cancel]
    exact h3
  · simp only [Int.add_sub_cancel]
    omega
/-- What was seen of what was shown is so. -/
theorem seen_true {n : Int} {l : List Obs} (hl : ∀ x ∈ l, OverOk n x) {picks : List Int} (hp : picks.length ≤ 20) {D : Int → Int} (hD : ∀ x ∈ l, D x.a < D x.b) (K : Int) : ∀ x ∈ countF (seenF l picks) K, D x.a < D x.b := by
  intro x hx
  obtain ⟨hr, hk⟩ := seen_right hl hp
  obtain ⟨h1, -, -, -, -, -, -, hm⟩ := count_over hr K x hx
  obtain ⟨i, hi, e⟩ := List.getElem_of_mem hm
  obtain ⟨y, hy, e1, e2⟩ := (hk i x (by rw [List.getElem?_eq_getElem hi, e])).2 h1
  rw [e1, e2]
  exact hD y hy
/-- A world of n things: the days 1, 2, 3 .. without a gap. -/
def WorldOk (n : Nat) (r : List Int) : Prop := r.length = n ∧ (∀ x ∈ r, 1 ≤ x ∧ x ≤ (n : Int)) ∧ ∀ v : Int, 1 ≤ v → ∀ x ∈ r, v ≤ x → v ∈ r
/-- r is what the days d are ranked as, by the ascending list of all. -/
def RankOf (all d r : List Int) : Prop := r.length = d.length ∧ ∀ i, i < d.length → ∃ k, k < all.length ∧ all.getD k 0 = d.getD i 0 ∧ r.getD i 0 = (k : Int) + 1
theorem getD_get {l : List Int} {i : Nat} (h : i < l.length) : l.getD i 0 = l[i] := by rw [List.getD_eq_getElem?_getD, List.getElem?_eq_getElem h]; rfl
theorem asc_lt {all : List Int} (hs : all.Pairwise (· < ·)) {i j : Nat} (h : i < j) (hj : j < all.length) : all.getD i 0 < all.getD j 0 := by
  rw [getD_get (by omega), getD_get hj]
  exact List.pairwise_iff_getElem.1 hs i j (by omega) hj h
theorem rank_world {all d r : List Int} (hs : all.Pairwise (· < ·)) (hm : ∀ x, x ∈ all ↔ x ∈ d) (hr : RankOf all d r) : WorldOk d.length r := by
  have hle : all.length ≤ d.length := List.Nodup.length_le_of_subset (hs.imp fun h => Int.ne_of_lt h) fun x hx => (hm x).1 hx
  obtain ⟨h1, h2⟩ := hr
  refine ⟨h1, fun x hx => ?_, fun v hv x hx hvx => ?_⟩
  · obtain ⟨i, hi, rfl⟩ := List.getElem_of_mem hx
    obtain ⟨k, hk, -, e⟩ := h2 i (by omega)
    rw [getD_get hi] at e
    omega
  · obtain ⟨i, hi, rfl⟩ := List.getElem_of_mem hx
    obtain ⟨k, hk, -, e⟩ := h2 i (by omega)
    rw [getD_get hi] at e
    have hk2 : (v - 1).toNat < all.length := by omega
    have hmem := (hm _).1 (List.getElem_mem hk2)
    obtain ⟨j, hj, ej⟩ := List.getElem_of_mem hmem
    obtain ⟨k3, hk3, e3, e4⟩ := h2 j hj
    have : k3 = (v - 1).toNat := by
      rw [getD_get hj, ej, ← getD_get hk2] at e3
      rcases Nat.lt_trichotomy k3 (v - 1).toNat with h | h | h
      · have := asc_lt hs h hk2; omega
      · exact h
      · have := asc_lt hs h hk3; omega
    rw [getD_get (by omega)] at e4
    have e5 : r[j]'(by omega) = v := by omega
    rw [← e5]
    exact List.getElem_mem _
theorem rank_lt {all d r : List Int} (hs : all.Pairwise (· < ·)) (hr : RankOf all d r) {i j : Nat} (hi : i < d.length) (hj : j < d.length) : r.getD i 0 < r.getD j 0 ↔ d.getD i 0 < d.getD j 0 := by
  obtain ⟨k, hk, e1, e2⟩ := hr.2 i hi
  obtain ⟨m, hm, e3, e4⟩ := hr.2 j hj
  rw [e2, e4, ← e1, ← e3]
  constructor
  · intro h
    exact asc_lt hs (by omega) hm
  · intro h
    rcases Nat.lt_trichotomy k m with h1 | h1 | h1
    · omega
    · subst h1; omega
    · have := asc_lt hs h1 hk; omega
end Go.Proofs.Ytgmodcipbklejaa
