/- Plain law: the days of an order. -/
import Derived.Test.YteljjkghjbofnaaMb
import Derived.Test.YteljjkghjbofnaaMc
import Derived.Deep.LoopGhost
import Derived.WalkMore
/-! Plain law: the days of an order. -/
set_option maxRecDepth 100000
namespace Go.Proofs.Yteljjkghjbofnaa
open Go Go.Proofs Go.RowKit

theorem getD_set_same {l : List Int} {p : Nat} (h : p < l.length) (x d : Int) : (l.set p x).getD p d = x := by
  rw [List.getD_eq_getElem?_getD, List.getElem?_set_self h]; rfl
theorem getD_set_other {l : List Int} {p q : Nat} (h : p ≠ q) (x d : Int) : (l.set p x).getD q d = l.getD q d := by
  rw [List.getD_eq_getElem?_getD, List.getD_eq_getElem?_getD, List.getElem?_set_ne h]

theorem dayNear_other {W : Web} {dry : Int} {p x : Nat} {out : List Int} {q : Int} (h : p ≠ x) : (dayNear W dry p out q).getD x 0 = out.getD x 0 := by
  unfold dayNear; split
  · exact getD_set_other h _ _
  · rfl
theorem dayNear_ge {W : Web} {dry : Int} {p : Nat} {out : List Int} {q : Int} (hp : p < out.length) : out.getD p 0 ≤ (dayNear W dry p out q).getD p 0 := by
  unfold dayNear; split
  · rw [getD_set_same hp]; exact Int.le_max_left _ _
  · exact Int.le_refl _
theorem near_fold {W : Web} {dry : Int} {p : Nat} : ∀ (qs : List Int) (out : List Int), p < out.length →
    (∀ x, p ≠ x → (qs.foldl (dayNear W dry p) out).getD x 0 = out.getD x 0) ∧ out.getD p 0 ≤ (qs.foldl (dayNear W dry p) out).getD p 0 ∧ (qs.foldl (dayNear W dry p) out).length = out.length
  | [], out, _ => ⟨fun _ _ => rfl, Int.le_refl _, rfl⟩
  | q :: qs, out, h => by
    have hl := dayNear_length W dry p out q
    obtain ⟨h1, h2, h3⟩ := near_fold (W := W) (dry := dry) (p := p) qs (dayNear W dry p out q) (by rw [hl]; exact h)
    exact ⟨fun x hx => (h1 x hx).trans (dayNear_other hx), Int.le_trans (dayNear_ge h) h2, h3.trans hl⟩

section
variable {W : Web} {dry : Int} {l : List Int}
theorem getD_nat (hin : ∀ p ∈ l, 0 ≤ p ∧ p < (W.n : Int)) {i : Nat} (hi : i < l.length) : ∃ p : Nat, l.getD i 0 = (p : Int) ∧ p < W.n ∧ l[i] = (p : Int) := by
  have h := hin l[i] (List.getElem_mem hi)
  refine ⟨l[i].toNat, ?_, by omega, by omega⟩
  rw [List.getD_eq_getElem?_getD, List.getElem?_eq_getElem hi]
  show l[i] = _
  omega
theorem dayStep_facts {i : Nat} {out : List Int} (hout : out.length = W.n) {p : Nat} (hp : l.getD i 0 = (p : Int)) (hpn : p < W.n) :
    (∀ x, p ≠ x → (dayStep W dry l out i).getD x 0 = out.getD x 0) ∧
    (0 < i → out.getD (l.getD (i - 1) 0).toNat 0 + 1 ≤ (dayStep W dry l out i).getD p 0) ∧ (i = 0 → dayStep W dry l out i = out) := by
  have hfl : (dayFirst l i out).length = out.length := by unfold dayFirst; split <;> simp
  have e : (l.getD i 0).toNat = p := by rw [hp]; rfl
  obtain ⟨h1, h2, h3⟩ := near_fold (W := W) (dry := dry) (p := p) (l.take i) (dayFirst l i out) (by rw [hfl, hout]; exact hpn)
  unfold dayStep
  rw [e]
  refine ⟨fun x hx => ?_, fun h0 => ?_, fun h0 => ?_⟩
  · rw [h1 x hx]
    unfold dayFirst
    split
    · rw [e]; exact getD_set_other hx _ _
    · rfl
  · refine Int.le_trans ?_ h2
    unfold dayFirst
    rw [if_pos h0, e, getD_set_same (by rw [hout]; exact hpn)]
    exact Int.le_refl _
  · subst h0
    simp [dayFirst]

/-- The days of what is placed stand. -/
theorem daysPart_stays (hin : ∀ p ∈ l, 0 ≤ p ∧ p < (W.n : Int)) (hnd : l.Nodup) {i : Nat} (hi : i < l.length) : ∀ (k : Nat), i < k → k ≤ l.length →
    (daysPart W dry l k).getD (l.getD i 0).toNat 0 = (daysPart W dry l (i + 1)).getD (l.getD i 0).toNat 0 := by
  intro k
  induction k with
  | zero => intro h; omega
  | succ k ih =>
    intro h1 h2
    by_cases e : k = i
    · subst e; rfl
    · rw [daysPart_succ]
      obtain ⟨p, hp, hpn, hp'⟩ := getD_nat (W := W) hin (show k < l.length by omega)
      obtain ⟨q, hq, hqn, hq'⟩ := getD_nat (W := W) hin hi
      have hne : p ≠ q := by
        rintro rfl
        have := (List.getElem_inj hnd).1 (hp'.trans hq'.symm)
        exact e this
      rw [hq]
      rw [(dayStep_facts (dry := dry) (daysPart_length W dry l k) hp hpn).1 _ (by simpa using hne), ← hq]
      exact ih (by omega) (by omega)
theorem days_zero (hin : ∀ p ∈ l, 0 ≤ p ∧ p < (W.n : Int)) (hnd : l.Nodup) (h : 0 < l.length) : (daysOf W dry l).getD (l.getD 0 0).toNat 0 = 0 := by
  unfold daysOf
  rw [daysPart_stays hin hnd h l.length h (Nat.le_refl _), daysPart_succ]
  obtain ⟨p, hp, hpn, _⟩ := getD_nat (W := W) hin h
  rw [(dayStep_facts (dry := dry) (daysPart_length W dry l 0) hp hpn).2.2 rfl]
  unfold daysPart
  rw [List.range_zero, List.foldl_nil, List.getD_eq_getElem?_getD, List.getElem?_replicate]
  split <;> rfl
theorem days_succ (hin : ∀ p ∈ l, 0 ≤ p ∧ p < (W.n : Int)) (hnd : l.Nodup) {i : Nat} (h0 : 0 < i) (h : i < l.length) :
    (daysOf W dry l).getD (l.getD (i - 1) 0).toNat 0 + 1 ≤ (daysOf W dry l).getD (l.getD i 0).toNat 0 := by
  unfold daysOf
  rw [daysPart_stays hin hnd h l.length h (Nat.le_refl _), daysPart_stays hin hnd (show i - 1 < l.length by omega) l.length (by omega) (Nat.le_refl _), daysPart_succ W dry l i]
  obtain ⟨p, hp, hpn, _⟩ := getD_nat (W := W) hin h
  have := (dayStep_facts (dry := dry) (daysPart_length W dry l i) hp hpn).2.1 h0
  rw [daysPart_stays hin hnd (show i - 1 < l.length by omega) i (by omega) (by omega)] at this
  rw [show (l.getD i 0).toNat = p by rw [hp]; rfl]
  exact this
theorem days_lt (hin : ∀ p ∈ l, 0 ≤ p ∧ p < (W.n : Int)) (hnd : l.Nodup) {i : Nat} : ∀ (j : Nat), i < j → j < l.length → (daysOf W dry l).getD (l.getD i 0).toNat 0 < (daysOf W dry l).getD (l.getD j 0).toNat 0 := by
  intro j
  induction j with
  | zero => intro h; omega
  | succ j ih =>
    intro h1 h2
    have h3 := days_succ (W := W) (dry := dry) hin hnd (show 0 < j + 1 by omega) h2
    rw [Nat.add_sub_cancel] at h3
    by_cases e : i = j
    · subst e; omega
    · have := ih (by omega) (by omega)
      omega
end

end Go.Proofs.Yteljjkghjbofnaa

/-! Owned slices of elements of several cells. -/
set_option maxRecDepth 100000
namespace Go.Proofs.Yteljjkghjbofnaa
open Go Go.Proofs Go.RowKit

/-- v is a slice of the call's own of the elements l, each of 'size' cells of type e. -/
def OwnG {α : Type} (X : World) (base e size : Nat) (cs : α → List Value) (v : Value) (l : List α) : Prop := X.ownsRow base e size v l.length (l.flatMap cs)

section
variable {α : Type} {X Y : World} {base e size : Nat} {cs : α → List Value} {v : Value} {l : List α}
theorem OwnG.nil (X : World) (base e size : Nat) (cs : α → List Value) : OwnG X base e size cs (.slice none 0 0) [] := World.ownsRow_nil X base e size
theorem OwnG.kept (h : OwnG X base e size cs v l) (hk : Kept X Y) : OwnG Y base e size cs v l := by
  refine ⟨h.1, ?_⟩
  rcases h.2 with hn | ⟨g, cap, cur, rfl, hb, hgg, rest⟩
  · exact .inl hn
  · exact .inr ⟨g, cap, cur, rfl, hb, (hk.below.block g (Array.getElem?_eq_some_iff.1 hgg).1).trans hgg, rest⟩
theorem OwnG.lt (h : OwnG X base e size cs v l) : ∀ k, v.ownBlock = some k → base ≤ k ∧ k < X.heap.size := World.ownsRow.lt h
theorem OwnG.setBelow (h : OwnG X base e size cs v l) {a : Addr} (ha : a.block < base) (u : Value) : OwnG (X.setCell a u) base e size cs v l := ownsRow_setCell_below h ha u
theorem OwnG.grownNe {row : Option Nat} (h : OwnG X base e size cs v l) (hg : X.grownBy Y row) (hr : ∀ k, v.ownBlock = some k → some k ≠ row) : OwnG Y base e size cs v l := by
  refine ⟨h.1, ?_⟩
  rcases h.2 with hn | ⟨g, cap, cur, rfl, hb, hgg, rest⟩
  · exact .inl hn
  · exact .inr ⟨g, cap, cur, rfl, hb, (hg.block g (Array.getElem?_eq_some_iff.1 hgg).1 (hr g rfl)).trans hgg, rest⟩
theorem flatMap_len (hcs : ∀ a, (cs a).length = size) : ∀ l : List α, (l.flatMap cs).length = l.length * size
  | [] => by simp
  | a :: l => by simp [flatMap_len hcs l, hcs, Nat.add_mul, Nat.add_comm]
theorem flatMap_get (hcs : ∀ a, (cs a).length = size) : ∀ (l : List α) (i j : Nat) (h : i < l.length), j < size → (l.flatMap cs)[i * size + j]? = (cs l[i])[j]?
  | [], i, j, h, _ => by simp at h
  | a :: l, 0, j, _, hj => by
    simp only [List.flatMap_cons, Nat.zero_mul, Nat.zero_add, List.getElem_cons_zero]
    rw [List.getElem?_append_left (by rw [hcs]; exact hj)]
  | a :: l, i + 1, j, h, hj => by
    simp only [List.flatMap_cons, List.getElem_cons_succ]
    rw [List.getElem?_append_right (by rw [hcs, Nat.add_mul]; omega), hcs, show (i + 1) * size + j - size = i * size + j by rw [Nat.add_mul]; omega]
    exact flatMap_get hcs l i j (by simpa using h) hj
/-- Where it lies. -/
theorem OwnG.slice (h : OwnG X base e size cs v l) (hcs : ∀ a, (cs a).length = size) : (l = [] ∧ v = .slice none 0 0) ∨ ∃ g c, v = .slice (some ⟨g, 0, none⟩) l.length c ∧ l.length ≤ c ∧ base ≤ g ∧ g < X.heap.size ∧
    (∀ o, X.frozen? ⟨g, o, none⟩ = false) ∧ ∀ i (h : i < l.length) (j : Nat) (u : Value), (cs l[i])[j]? = some u → X.cell? ⟨g, i * size + j, none⟩ = some u := by
  rcases h.2 with ⟨h1, h2⟩ | ⟨g, cap, cur, rfl, hbg, hgg, hnc, hcm, hcsz, htake⟩
  · exact .inl ⟨List.eq_nil_of_length_eq_zero h2, h1⟩
  · refine .inr ⟨g, cap, rfl, hnc, hbg, (Array.getElem?_eq_some_iff.1 hgg).1, fun o => frozen_of_row _ _ _ _ _ hgg, fun i hi j u hu => ?_⟩
    have hj : j < size := by have := (List.getElem?_eq_some_iff.1 hu).1; rw [hcs] at this; exact this
    rw [cell_of_row _ _ _ _ _ _ hgg, ← Array.getElem?_toList]
    have hlt : i * size + j < l.length * size := by
      have : (i + 1) * size ≤ l.length * size := Nat.mul_le_mul_right _ hi
      rw [Nat.add_mul] at this
      omega
    have e : (cur.toList.take (l.length * size))[i * size + j]? = cur.toList[i * size + j]? := by rw [List.getElem?_take, if_pos hlt]
    rw [← e, htake, flatMap_get hcs l i j hi hj]
    exact hu
end

theorem append_g {α : Type} {ops : Array Oper} {rest : List Oper} {o : Oper} {a : Act} {Q : Exit → Act → World → Prop} (w : World) (hg : o.guard = none) (s x : Operand) (t : TypeId)
    (ho : o.op = .call { callee := .builtin .append, args := #[s, x], argTypes := #[t, t] }) (base e size bytes : Nat) (z : Value) (cs : α → List Value) (hcs : ∀ a, (cs a).length = size) (hone : ∀ a, ∀ u ∈ cs a, u.oneCell' = true)
    (ht : Try.prog.underlying t = some (.slice e)) (hinfo : (Try.prog.info? e).map (fun i => (i.zero, i.size, i.bytes)) = some (some z, size, bytes)) (hz : z.cells.size = size) (hs0 : 0 < size) (hbytes : bytes ≤ 64)
    (v : Value) (l : List α) (hs : a.eval s = v) (hown : OwnG w base e size cs v l)
    (g c : Nat) (y : List α) (hx : a.eval x = .slice (some ⟨g, 0, none⟩) y.length c) (hy : ∀ j u, (y.flatMap cs)[j]? = some u → w.cell? ⟨g, j, none⟩ = some u) (hl : l.length + y.length < 1099511627776) (hbase : base ≤ w.heap.size)
    (h : ∀ v' w', OwnG w' base e size cs v' (l ++ y) → w.grownBy w' v.ownBlock → (v' = .slice none 0 0 ↔ v = .slice none 0 0 ∧ y.length = 0) → wpList Try.prog ops Q rest (a.put o.dst v') w') :
    wpList Try.prog ops Q (o :: rest) a w := by
  obtain ⟨i0, hi, hz0, hz1, hz2⟩ := info_parts hinfo
  refine wpList_append_own w hg s x t ho base e i0 z size bytes ht hi hz0 hz1 hz2 hz hs0 v l.length _ hs hown ⟨g, 0, none⟩ y.length c (y.flatMap cs) hx (flatMap_len hcs y)
    (fun j u hu => ?_) (fun u hu => ?_) (by unfold maxLen; omega) ?_ hbase ?_
  · have := hy j u hu
    by_cases h0 : j = 0
    · subst h0; simpa [Addr.add] using this
    · simpa [Addr.add, h0] using this
  · obtain ⟨a, _, ha⟩ := List.mem_flatMap.1 hu
    exact hone a u ha
  · have : (l.length + y.length) * bytes ≤ 1099511627776 * 64 := Nat.mul_le_mul (by omega) hbytes
    omega
  · intro v' w' h1 h2 h3
    refine h v' w' ?_ h2 h3
    unfold OwnG
    rw [List.length_append, List.flatMap_append]
    exact h1

/-! ### Reasons, pairs -/

abbrev Rsn := Int × Int × Int
def rsnC (r : Rsn) : List Value := [.int .i64 r.1, .int .i64 r.2.1, .int .u8 r.2.2]
def pairC (p : Int × Int) : List Value := [.int .i64 p.1, .int .i64 p.2]
theorem info44 : (Try.prog.info? 44).map (fun i => (i.zero, i.size, i.bytes)) = some (some (.agg #[.int .i64 0, .int .i64 0, .int .u8 0]), 3, 24) := by kernel_rfl
theorem info83 : (Try.prog.info? 83).map (fun i => (i.zero, i.size, i.bytes)) = some (some (.agg #[.int .i64 0, .int .i64 0]), 2, 16) := by kernel_rfl

end Go.Proofs.Yteljjkghjbofnaa

/-! Reasons: the model; plain facts. -/
set_option maxRecDepth 100000
namespace Go.Proofs.Yteljjkghjbofnaa
open Go Go.Proofs Go.RowKit

def whyQ (W : Web) (dry : Int) (D : List Int) (p : Nat) : Option Nat := (List.range W.n).find? fun q => hasS (W.near p) q && D.getD q 0 + dry + 1 == D.getD p 0
def whyR (W : Web) (dry : Int) (l D : List Int) (i : Nat) : Rsn :=
  match whyQ W dry D (l.getD i 0).toNat with
  | some q => (l.getD i 0, (q : Int), 2)
  | none => (l.getD i 0, l.getD (i - 1) 0, 1)
def rsnL (W : Web) (dry : Int) (l D : List Int) : Nat → Nat → List Rsn
  | 0, _ => []
  | f + 1, i => if D.getD (l.getD i 0).toNat 0 = 0 then [(l.getD i 0, -1, 0)] else whyR W dry l D i :: rsnL W dry l D f (l.idxOf (whyR W dry l D i).2.1)
def reasonsL (W : Web) (dry : Int) (l : List Int) : List Rsn := rsnL W dry l (daysOf W dry l) l.length (l.length - 1)

theorem mem_full {n : Nat} {l : List Int} (hl : l.length = n) (hin : ∀ p ∈ l, 0 ≤ p ∧ p < (n : Int)) (hnd : l.Nodup) {q : Nat} (hq : q < n) : (q : Int) ∈ l := by
  refine Classical.byContradiction fun h => ?_
  have h1 : ((q : Int) :: l).Nodup := List.nodup_cons.2 ⟨h, hnd⟩
  have h2 : ((q : Int) :: l) ⊆ (List.range n).map (fun p : Nat => (p : Int)) := by
    intro x hx
    rcases List.mem_cons.1 hx with rfl | hx
    · exact List.mem_map.2 ⟨q, List.mem_range.2 hq, rfl⟩
    · have := hin x hx
      exact List.mem_map.2 ⟨x.toNat, List.mem_range.2 (by omega), by omega⟩
  have := List.Nodup.length_le_of_subset h1 h2
  simp at this
  omega

theorem near_row {W : Web} {dry : Int} (hd : 0 ≤ dry ∧ dry ≤ 30) {n p : Nat} : ∀ (qs : List Int) (B : Int) (out : List Int), 0 ≤ B → Row n B out → Row n (B + 31 * qs.length) (qs.foldl (dayNear W dry p) out)
  | [], B, out, _, h => by simpa using h
  | q :: qs, B, out, hB, h => by
    have h1 : Row n (B + 31) (dayNear W dry p out q) := by
      unfold dayNear
      split
      · have h2 := h.getD hB p
        have h3 := h.getD hB q.toNat
        refine (h.mono (by omega)).set p ⟨by omega, ?_⟩
        exact Int.max_le.2 ⟨by omega, by omega⟩
      · exact h.mono (by omega)
    have h2 := near_row (W := W) hd (p := p) qs (B + 31) _ (by omega) h1
    simp only [List.length_cons, List.foldl_cons]
    exact h2.mono (by omega)
theorem daysPart_row {W : Web} {dry : Int} (hd : 0 ≤ dry ∧ dry ≤ 30) {l : List Int} (hl : l.length ≤ 24) : ∀ (k : Nat), k ≤ l.length → Row W.n (1000 * (k : Int)) (daysPart W dry l k)
  | 0, _ => ⟨by simp [daysPart], fun x hx => by have := List.eq_of_mem_replicate hx; omega⟩
  | k + 1, h => by
    rw [daysPart_succ]
    have h1 := (daysPart_row (W := W) hd hl k (by omega)).first (by omega) l k
    have h2 := near_row (W := W) hd (p := (l.getD k 0).toNat) (l.take k) _ _ (by omega) h1
    refine h2.mono ?_
    rw [List.length_take]
    omega
theorem daysOf_row {W : Web} {dry : Int} (hd : 0 ≤ dry ∧ dry ≤ 30) {l : List Int} (hl : l.length ≤ 24) : Row W.n 24000 (daysOf W dry l) :=
  (daysPart_row (W := W) hd hl l.length (Nat.le_refl _)).mono (by omega)

theorem whyQ_some {W : Web} {dry : Int} {D : List Int} {p q : Nat} (hq : q < W.n) (h1 : (hasS (W.near p) q && D.getD q 0 + dry + 1 == D.getD p 0) = true) (h : ∀ r, r < q → (hasS (W.near p) r && D.getD r 0 + dry + 1 == D.getD p 0) = false) : whyQ W dry D p = some q := by
  unfold whyQ
  have e : List.range W.n = List.range q ++ q :: List.range' (q + 1) (W.n - (q + 1)) := by
    rw [List.range_eq_range', List.range_eq_range', show W.n = q + (W.n - q) by omega, ← List.range'_append_1, show q + (W.n - q) - (q + 1) = W.n - q - 1 by omega]
    congr 1
    rw [show W.n - q = (W.n - q - 1) + 1 by omega, List.range'_succ, Nat.zero_add]
    simp
  rw [e, List.find?_append]
  have hn : (List.range q).find? (fun q => hasS (W.near p) q && D.getD q 0 + dry + 1 == D.getD p 0) = none := by
    rw [List.find?_eq_none]
    intro r hr
    simpa using h r (List.mem_range.1 hr)
  rw [hn]
  simp only [Option.none_or]
  rw [List.find?_cons, h1]
theorem whyQ_none {W : Web} {dry : Int} {D : List Int} {p : Nat} (h : ∀ r, r < W.n → (hasS (W.near p) r && D.getD r 0 + dry + 1 == D.getD p 0) = false) : whyQ W dry D p = none := by
  unfold whyQ
  rw [List.find?_eq_none]
  intro r hr
  simpa using h r (List.mem_range.1 hr)

/-- The next step goes back. -/
theorem why_back {W : Web} {dry : Int} (hd : 0 ≤ dry) {l : List Int} (hl : l.length = W.n) (hin : ∀ p ∈ l, 0 ≤ p ∧ p < (W.n : Int)) (hnd : l.Nodup) {i : Nat} (hi : i < l.length) (h0 : (daysOf W dry l).getD (l.getD i 0).toNat 0 ≠ 0) :
    0 < i ∧ (whyR W dry l (daysOf W dry l) i).2.1 ∈ l ∧ l.idxOf (whyR W dry l (daysOf W dry l) i).2.1 < i := by
  have hpos : 0 < i := by
    refine Nat.pos_of_ne_zero fun e => h0 ?_
    subst e
    exact days_zero hin hnd hi
  refine ⟨hpos, ?_⟩
  unfold whyR
  split
  · rename_i q hq
    unfold whyQ at hq
    have hq1 := List.find?_some hq
    have hq2 := List.mem_range.1 (List.mem_of_find?_eq_some hq)
    simp only [Bool.and_eq_true, beq_iff_eq] at hq1
    have hm := mem_full hl hin hnd hq2
    refine ⟨hm, Nat.lt_of_not_le fun hle => ?_⟩
    have hlt := List.idxOf_lt_length_iff.2 hm
    have e : l.getD (l.idxOf (q : Int)) 0 = (q : Int) := by
      rw [List.getD_eq_getElem?_getD, List.getElem?_eq_getElem hlt, List.getElem_idxOf]
      rfl
    have hq' : (l.getD (l.idxOf (q : Int)) 0).toNat = q := by rw [e]; rfl
    rcases Nat.lt_or_eq_of_le hle with h | h
    · have := days_lt (W := W) (dry := dry) hin hnd _ h hlt
      rw [hq'] at this
      omega
    · have h2 := hq1.2
      rw [← hq', ← h] at h2
      omega
  · simp only
    have hi1 : i - 1 < l.length := by omega
    have e : l.getD (i - 1) 0 = l[i - 1] := by rw [List.getD_eq_getElem?_getD, List.getElem?_eq_getElem hi1]; rfl
    rw [e]
    refine ⟨List.getElem_mem hi1, ?_⟩
    have := idxOf_getElem_le l (i - 1) hi1
    omega

end Go.Proofs.Yteljjkghjbofnaa

/-! Reasons. -/
set_option maxRecDepth 100000
namespace Go.Proofs.Yteljjkghjbofnaa
open Go Go.Proofs Go.RowKit
attribute [local go_sem] Oper.semAt_some

def ReasonsR (o : Prob) (dry : Int) (l : List Int) : List Rsn × Int := if datErr o dry l = 0 then (reasonsL (webOf o) dry l, 0) else ([], datErr o dry l)
def ReasonsPost (rs : List Rsn) (err : Int) (w : World) (e : Ending) (w' : World) : Prop := ∃ v, e = .returned (.tuple #[v, .int .i64 err]) ∧ OwnG w' w.heap.size 44 3 rsnC v rs ∧ Kept w w'

theorem rsnC_len (r : Rsn) : (rsnC r).length = 3 := rfl
theorem rsnC_one (r : Rsn) : ∀ u ∈ rsnC r, u.oneCell' = true := fun u hu => by
  simp [rsnC] at hu
  rcases hu with rfl | rfl | rfl <;> rfl
theorem OwnG.base' {α : Type} {X : World} {base base' e size : Nat} {cs : α → List Value} {v : Value} {l : List α} (h : OwnG X base e size cs v l) (hb : base' ≤ base) : OwnG X base' e size cs v l := by
  refine ⟨h.1, ?_⟩
  rcases h.2 with hn | ⟨g, cap, cur, rfl, hb', rest⟩
  · exact .inl hn
  · exact .inr ⟨g, cap, cur, rfl, by omega, rest⟩

theorem datErr_ok {o : Prob} {dry : Int} {l : List Int} (h : datErr o dry l = 0) : chk o = 0 ∧ (0 ≤ dry ∧ dry ≤ 30) ∧ orderedB (webOf o) l = true := by
  unfold datErr at h
  split at h
  · rename_i h1
    split at h
    · rename_i h2; exact ⟨h1, h2⟩
    · cases h
  · rename_i h1; exact absurd h h1

theorem rsn_new (w : World) (r : Rsn) (j : Nat) (u : Value) (h : ([r].flatMap rsnC)[j]? = some u) : (w.alloc (.cells #[.int .i64 r.1, .int .i64 r.2.1, .int .u8 r.2.2] 44)).cell? ⟨w.heap.size, j, none⟩ = some u := by
  rw [cell_of_row _ _ _ _ _ _ (heap_alloc_new w (.cells #[.int .i64 r.1, .int .i64 r.2.1, .int .u8 r.2.2] 44))]
  simpa [rsnC] using h
theorem rsn_newD (X : World) (n : Nat) (hX : X.heap.size = n) (r : Rsn) (j : Nat) (u : Value) (h : ([r].flatMap rsnC)[j]? = some u) : ((X.alloc (.cells #[.int .i64 r.1, .int .i64 r.2.1, .int .u8 r.2.2] 44)).drew).cell? ⟨n, j, none⟩ = some u := by
  subst hX
  exact rsn_new X r j u h
theorem rsnL_zero {W : Web} {dry : Int} {l D : List Int} {f k p : Nat} (hp : l.getD k 0 = (p : Int)) (h : D.getD p 0 = 0) : rsnL W dry l D (f + 1) k = [((p : Int), -1, 0)] := by
  unfold rsnL
  rw [hp, Int.toNat_natCast, if_pos h]
theorem rsnL_some {W : Web} {dry : Int} {l D : List Int} {f k p : Nat} (hp : l.getD k 0 = (p : Int)) (h : D.getD p 0 ≠ 0) : rsnL W dry l D (f + 1) k = whyR W dry l D k :: rsnL W dry l D f (l.idxOf (whyR W dry l D k).2.1) := by
  conv => lhs; unfold rsnL
  rw [hp, Int.toNat_natCast, if_neg h]
theorem Kept.ownG {α : Type} {w X Y : World} {base e size : Nat} {cs : α → List Value} {v : Value} {l : List α} (h : Kept w X) (hown : OwnG X base e size cs v l) (hg : X.grownBy Y v.ownBlock) (hb : w.heap.size ≤ base) : Kept w Y :=
  h.grown hg (fun r e => Nat.le_trans hb (hown.lt r e).1)

theorem wpStill_skip {P : Program} {ops : Array Oper} {w : World} {Q : Act → Prop} {a : Act} {o : Oper} {rest : List Oper} (hw : Region.wanted o (yielded ops a.tmps) = false) (h : wpStill P ops w Q rest (a.put o.dst undef)) : wpStill P ops w Q (o :: rest) a := by
  unfold wpStill
  rw [if_neg (by rw [hw]; simp)]
  exact h
theorem wpStill_want {P : Program} {ops : Array Oper} {w : World} {Q : Act → Prop} {a : Act} {o : Oper} {rest : List Oper} (hw : Region.wanted o (yielded ops a.tmps) = true) (h : ∀ K : Act → Prop, (∀ a, wpStill P ops w Q rest a → K a) → o.still P a w K) : wpStill P ops w Q (o :: rest) a := by
  unfold wpStill
  rw [if_pos hw]
  exact h _ (fun _ h => h)

set_option maxHeartbeats 1600000 in
theorem Reasons_ok (o : Prob) (ao bo : Option Addr) (ca cb : Nat) (dry : Int) (l : List Int) (lo : Option Addr) (c : Nat) (w : World) (ho : IsProb w o ao bo) (hl : Ints w lo l) (hll : l.length < 1152921504606846976) (hlc : l.length ≤ c) (h : datErr o dry l = 0) :
    Calls Try.prog 31 #[probV o ao ca bo cb, .int .i64 dry, .slice lo l.length c] w (ReasonsPost (reasonsL (webOf o) dry l) 0 w) := by
  have HO := Lib.hid ho
  have HL := Lib.hid hl
  have H := Lib.hid h
  obtain ⟨h1, hdry, h3⟩ := datErr_ok h
  obtain ⟨hlen, hin, hnd⟩ := ordered_facts h3
  have hn := webOf_n h1
  have HLEN := Lib.hid hlen
  have HIN := Lib.hid hin
  have HND := Lib.hid hnd
  have hrow := daysOf_row (W := webOf o) (dry := dry) hdry (l := l) (by omega)
  have HROW := Lib.hid hrow
  clear ho hl h h1 h3 hin hnd hrow hlen
  go_enter Try.func31, Try.ntmps31
  go_wp2_with fail
  obtain ⟨w0, e0, hk0, -, -⟩ := alloc_prob w o.N o.arcs o.near ao ca bo cb
  rw [e0]
  clear e0
  have HK0 := Lib.hid hk0
  clear hk0
  refine (dated_ok o ao bo ca cb dry l lo c w0 (HO.out.kept HK0.out) (HL.out.kept HK0.out) hll hlc H.out).mono ?_
  rintro e w1 ⟨b, g, rfl, hw1, hg, harr, hk1⟩
  have HW1 := Lib.hid hw1
  have HA1 := Lib.hid harr
  have HG1 := Lib.hid (Nat.le_trans HK0.out.size hg)
  have HK1 := Lib.hid (HK0.out.trans hk1)
  clear hw1 hg harr hk1 HK0 HO H w0
  have HT : Hid (reasonsL (webOf o) dry l = rsnL (webOf o) dry l (daysOf (webOf o) dry l) l.length (l.length - 1)) := Lib.hid (by unfold reasonsL; rfl)
  have HWB : Hid (∀ i, i < l.length → (daysOf (webOf o) dry l).getD (l.getD i 0).toNat 0 ≠ 0 → 0 < i ∧ (whyR (webOf o) dry l (daysOf (webOf o) dry l) i).2.1 ∈ l ∧ l.idxOf (whyR (webOf o) dry l (daysOf (webOf o) dry l) i).2.1 < i) :=
    fun i hi h0 => why_back hdry.1 HLEN.out HIN.out HND.out hi h0
  generalize reasonsL (webOf o) dry l = total at *
  generalize daysOf (webOf o) dry l = D at *
  generalize webOf o = W at *
  have hdl := HROW.out.1
  go_wp2
  go_loopg [11, 12] l.length (fun f out x wr => ∃ (i : Int) (rs : List Rsn), x = .int .i64 i ∧ -1 ≤ i ∧ i < (f : Int) ∧ f ≤ l.length ∧ OwnG wr w1.heap.size 44 3 rsnC out rs ∧ rs.length + f ≤ l.length ∧ Kept w1 wr ∧ (0 ≤ i → rs ++ rsnL W dry l D f i.toNat = total) ∧ (i < 0 → l = [] ∧ rs = []))
  case atStart =>
    refine ⟨(l.length : Int) - 1, [], by go_num, by omega, by omega, Nat.le_refl _, OwnG.nil _ _ _ _ _, by simp, Kept.refl _, fun h => ?_, fun h => ⟨List.eq_nil_of_length_eq_zero (by omega), rfl⟩⟩
    rw [HT.out, List.nil_append, show ((l.length : Int) - 1).toNat = l.length - 1 by omega]
  case round =>
    obtain ⟨i, rs, rfl, hi0, hif, hfl, hown, hrl, hk, hrs, hneg⟩ := hrel
    have HOWN := Lib.hid hown
    have HRL := Lib.hid hrl
    have HK := Lib.hid hk
    have HRS := Lib.hid hrs
    have HNEG := Lib.hid hneg
    have HFL := Lib.hid hfl
    clear hown hrl hk hrs hneg hfl
    by_cases hneg0 : i < 0
    · have HN0 := Lib.hid hneg0
      have hdge : decide (i ≥ 0) = false := decide_eq_false (by omega)
      clear hneg0
      go_wp2
      go_ret2
      obtain ⟨e1, e2⟩ := HNEG.out HN0.out
      have e3 : total = rs := by rw [HT.out, e1, e2]; rfl
      rw [e3]
      exact ⟨_, rfl, HOWN.out.base' HK1.out.size, HK1.out.trans HK.out⟩
    · obtain ⟨k, rfl⟩ : ∃ k : Nat, i = (k : Int) := ⟨i.toNat, by omega⟩
      obtain ⟨f, rfl⟩ : ∃ f, gk = f + 1 := ⟨gk - 1, by omega⟩
      have hkl : k < l.length := by have := HFL.out; omega
      have hdge : decide ((k : Int) ≥ 0) = true := decide_eq_true (by omega)
      obtain ⟨p, hp1, hpn, hp2⟩ := getD_nat HIN.out hkl
      obtain ⟨B, off, rfl, hc⟩ := (HL.out.kept (HK1.out.trans HK.out)) k hkl
      rw [hp2] at hc
      have hpd : p < D.length := by rw [hdl]; exact hpn
      have hgp := (HA1.out.kept HK.out).get p hpd
      have hDp : D.getD p 0 = D[p] := by rw [List.getD_eq_getElem?_getD, List.getElem?_eq_getElem hpd]; rfl
      have hrow := HROW.out.getD (by omega) p
      rw [hDp] at hrow
      generalize D[p] = dp at hgp hDp hrow
      have hTT : rs ++ rsnL W dry l D (f + 1) k = total := HRS.out (by omega)
      have HTT := Lib.hid hTT
      have HDP := Lib.hid hDp
      have HP1 := Lib.hid hp1
      have hpi : (p : Int) < W.n := by omega
      have hki : (k : Int) < l.length := by omega
      have hkc : k < c := by omega
      have hpw : (p : Int) < 24 := by omega
      clear hneg0 hTT hDp hp1 hp2 hpd hi0
      by_cases hz : dp = 0
      · have HZ := Lib.hid hz
        have hb : (dp == 0) = true := by simp [hz]
        clear hz
        go_wp2_with (at_builtin; refine append_g _ rfl _ _ 38 rfl w1.heap.size 44 3 24 _ rsnC rsnC_len rsnC_one Try.underlying38 info44 rfl (by decide) (by decide) u11 rs rfl (HOWN.out.kept ((Kept.refl _).alloc _)) wr.heap.size 1 [((p : Int), -1, 0)] rfl (rsn_new wr ((p : Int), -1, 0)) (by have := HRL.out; have := HLEN.out; simp only [List.length_cons, List.length_nil]; omega) (by have := HK.out.size; simp; omega) ?_; intro v' w2 hown2 hg2 _; have HO2 := Lib.hid hown2; have HG2 := Lib.hid hg2; clear hown2 hg2)
        go_ret2
        have e3 : total = rs ++ [((p : Int), -1, 0)] := by rw [← HTT.out, rsnL_zero HP1.out (HDP.out.trans HZ.out)]
        rw [e3]
        exact ⟨_, rfl, HO2.out.base' HK1.out.size, Kept.ownG (((HK1.out.trans HK.out).alloc _)) (HOWN.out.kept ((Kept.refl _).alloc _)) HG2.out HK1.out.size⟩
      · have HZ := Lib.hid hz
        have hb : (dp == 0) = false := by simp [hz]
        obtain ⟨hk0, hwm, hwi⟩ := HWB.out k hkl (by rw [HP1.out, Int.toNat_natCast, HDP.out]; exact hz)
        have hk1l : k - 1 < l.length := by omega
        obtain ⟨p', hp1', hpn', hp2'⟩ := getD_nat HIN.out hk1l
        obtain ⟨B', off', e', hc'⟩ := (HL.out.kept (HK1.out.trans HK.out)) (k - 1) hk1l
        simp only [Option.some.injEq, Addr.mk.injEq] at e'
        obtain ⟨rfl, rfl, -⟩ := e'
        rw [hp2'] at hc'
        have HP1' := Lib.hid hp1'
        have hk1 : (k : Int) - 1 = ((k - 1 : Nat) : Int) := by omega
        have hk1i : ((k - 1 : Nat) : Int) < l.length := by omega
        have HWM := Lib.hid hwm
        have HWI := Lib.hid hwi
        have hwn := (HW1.out.kept HK.out).n
        have hblt := lt_of_cell hwn
        clear hz hwm hwi hp1' hp2'
        go_wp2
        have hbx : Hid ((wr.alloc (.cells #[.int .i64 p, .int .i64 p', .int .u8 1] 44)).cell? ⟨wr.heap.size, 0, none⟩ = some (.int .i64 p) ∧ (wr.alloc (.cells #[.int .i64 p, .int .i64 p', .int .u8 1] 44)).cell? ⟨wr.heap.size, 1, none⟩ = some (.int .i64 p') ∧ (wr.alloc (.cells #[.int .i64 p, .int .i64 p', .int .u8 1] 44)).cell? ⟨wr.heap.size, 2, none⟩ = some (.int .u8 1)) :=
          ⟨rsn_new wr ((p : Int), (p' : Int), 1) 0 _ rfl, rsn_new wr ((p : Int), (p' : Int), 1) 1 _ rfl, rsn_new wr ((p : Int), (p' : Int), 1) 2 _ rfl⟩
        have hfr : Hid (∀ x, (wr.alloc (.cells #[.int .i64 p, .int .i64 p', .int .u8 1] 44)).frozen? ⟨wr.heap.size, x, none⟩ = false) := fun x => frozen_of_row _ _ _ _ _ (heap_alloc_new wr (.cells #[.int .i64 p, .int .i64 p', .int .u8 1] 44))
        have hka : Hid (Kept wr (wr.alloc (.cells #[.int .i64 p, .int .i64 p', .int .u8 1] 44))) := (Kept.refl wr).alloc _
        generalize (wr.alloc (.cells #[.int .i64 p, .int .i64 p', .int .u8 1] 44)) = wa at *
        obtain ⟨t, ht⟩ : ∃ t, wr.heap.size = t := ⟨_, rfl⟩
        rw [ht] at hbx hfr ⊢
        have HT' := Lib.hid ht
        clear hwn hc hc' hgp ht hblt
        generalize wr = wo at *
        go_loopg [57] W.n (fun j q wi => ∃ i : Nat, q = .int .i64 (i : Int) ∧ i + j = W.n ∧ Kept wa wi ∧ ∀ r, r < i → (hasS (W.near p) r && D.getD r 0 + dry + 1 == D.getD p 0) = false)
        case atStart => exact ⟨0, rfl, by omega, Kept.refl _, fun r h => by omega⟩
        case round =>
          obtain ⟨q, rfl, hqj, hki, hno⟩ := hrel
          have HQJ := Lib.hid hqj
          have HKI := Lib.hid hki
          have HNO := Lib.hid hno
          have KX : Hid (Kept wo wr) := hka.out.trans hki
          clear hqj hki hno
          by_cases hlt : q < W.n
          · have KALL : Hid (Kept w1 wr) := HK.out.trans KX.out
            have hq32 : q < 32 := by omega
            have hqi : (q : Int) < W.n := by omega
            have hnr := (HW1.out.kept KALL.out).near p (by omega)
            have hqd : q < D.length := by rw [hdl]; exact hlt
            have hgq := (HA1.out.kept KALL.out).get q hqd
            have hDq : D.getD q 0 = D[q] := by rw [List.getD_eq_getElem?_getD, List.getElem?_eq_getElem hqd]; rfl
            have hrowq := HROW.out.getD (by omega) q
            rw [hDq] at hrowq
            generalize D[q] = dq at hgq hDq hrowq
            have hpd2 : p < D.length := by rw [hdl]; exact hpn
            have hgp2 := (HA1.out.kept KALL.out).get p hpd2
            have e3 : D[p] = dp := by have := HDP.out; rw [List.getD_eq_getElem?_getD, List.getElem?_eq_getElem hpd2] at this; exact this
            rw [e3] at hgp2
            have hw1 : IntKind.i64.wrap (dq + dry) = dq + dry := IntWalk.i64_in _ (by omega)
            have hw2 : IntKind.i64.wrap (dq + dry + 1) = dq + dry + 1 := IntWalk.i64_in _ (by omega)
            have HDQ := Lib.hid hDq
            have BX : Hid (wr.cell? ⟨t, 0, none⟩ = some (.int .i64 p) ∧ wr.cell? ⟨t, 1, none⟩ = some (.int .i64 p') ∧ wr.cell? ⟨t, 2, none⟩ = some (.int .u8 1)) := ⟨HKI.out.cell hbx.out.1, HKI.out.cell hbx.out.2.1, HKI.out.cell hbx.out.2.2⟩
            have FX : Hid (∀ x, wr.frozen? ⟨t, x, none⟩ = false) := fun x => (HKI.out.cells.2 t x (lt_of_cell hbx.out.1)).trans (hfr.out x)
            clear hDq hpd2 e3 hqd
            cases hh : hasS (W.near p) q
            all_goals
              have HH := Lib.hid hh
              clear hh
            · go_wp2
              refine region_tail 21 (by kernel_rfl) (by kernel_rfl) ?_
              simp only [List.take_succ_cons, List.take_zero, List.drop_succ_cons, List.drop_zero]
              repeat still_step
              still_call Calls_still (has_any (W.near p) q _ hq32)
              rw [HH.out]
              still_step
              iterate 12
                with_reducible refine wpStill_skip ?_ ?_
                · rfl
                simp only [Act.put, List.setIfInBounds_toArray, List.set_cons_zero, List.set_cons_succ]
              with_reducible refine wpStill_nil ?_
              go_wp2
              go_roundg (gk - 1)
              case measure => have := HQJ.out; omega
              case rel =>
                refine ⟨q + 1, by go_num, by have := HQJ.out; omega, HKI.out.drew, fun r hr => ?_⟩
                by_cases e : r = q
                · subst e; rw [HH.out]; rfl
                · exact HNO.out r (by omega)
            · cases he : (dq + dry + 1 == dp)
              · go_wp2
                refine region_tail 21 (by kernel_rfl) (by kernel_rfl) ?_
                simp only [List.take_succ_cons, List.take_zero, List.drop_succ_cons, List.drop_zero]
                repeat still_step
                still_call Calls_still (has_any (W.near p) q _ hq32)
                rw [HH.out]
                still_step
                iterate 12
                  with_reducible refine wpStill_want ?_ (fun K hK => ?_)
                  · rfl
                  go_simp
                  refine hK _ ?_
                  clear hK K
                with_reducible refine wpStill_nil ?_
                go_wp2
                go_roundg (gk - 1)
                case measure => have := HQJ.out; omega
                case rel =>
                  refine ⟨q + 1, by go_num, by have := HQJ.out; omega, HKI.out.drew, fun r hr => ?_⟩
                  by_cases e : r = q
                  · subst e; rw [HH.out, HDQ.out, HDP.out]; exact he
                  · exact HNO.out r (by omega)
              · go_wp2
                refine region_tail 21 (by kernel_rfl) (by kernel_rfl) ?_
                simp only [List.take_succ_cons, List.take_zero, List.drop_succ_cons, List.drop_zero]
                repeat still_step
                still_call Calls_still (has_any (W.near p) q _ hq32)
                rw [HH.out]
                still_step
                iterate 12
                  with_reducible refine wpStill_want ?_ (fun K hK => ?_)
                  · rfl
                  go_simp
                  refine hK _ ?_
                  clear hK K
                with_reducible refine wpStill_nil ?_
                have hc0 := BX.out.1
                have hc1 := BX.out.2.1
                have hc2 := BX.out.2.2
                have htl := lt_of_cell hc0
                have hf0 := FX.out 0
                have hf1 := FX.out 1
                have hf2 := FX.out 2
                have WR : Hid (whyR W dry l D k = ((p : Int), (q : Int), 2)) := by
                  show _ = _
                  unfold whyR
                  rw [HP1.out, Int.toNat_natCast, whyQ_some hlt (by rw [HH.out, HDQ.out, HDP.out]; exact he) HNO.out]
                obtain ⟨wS, hwS⟩ : ∃ X, X = ((wr.setCell ⟨t, 0, none⟩ (.int .i64 p)).setCell ⟨t, 1, none⟩ (.int .i64 q)).setCell ⟨t, 2, none⟩ (.int .u8 2) := ⟨_, rfl⟩
                have hkS : Kept wo wS := by
                  have := HT'.out
                  rw [hwS]
                  exact ((KX.out.setCell (p := ⟨t, 0, none⟩) (by simp; omega) _).setCell (p := ⟨t, 1, none⟩) (by simp; omega) _).setCell (p := ⟨t, 2, none⟩) (by simp; omega) _
                have hzS : wS.heap.size = wr.heap.size := by rw [hwS]; simp
                have hcS : wS.cell? ⟨t, 1, none⟩ = some (.int .i64 q) := by
                  rw [hwS]
                  exact cell_set_off (cell_set_same (cell_set_off hc1 (by omega))) (by omega)
                have HWS := Lib.hid hwS
                have HKS := Lib.hid hkS
                have HZS := Lib.hid hzS
                have HCS := Lib.hid hcS
                clear hwS hkS hzS hcS
                go_wp2_with (at_builtin; rw [← HWS.out]; refine append_g _ rfl _ _ 38 rfl w1.heap.size 44 3 24 _ rsnC rsnC_len rsnC_one Try.underlying38 info44 rfl (by decide) (by decide) u11 rs rfl (((HOWN.out.kept HKS.out).kept ((Kept.refl _).alloc _)).kept (Kept.refl _).drew) wr.heap.size 1 [((p : Int), (q : Int), 2)] rfl (rsn_newD _ _ HZS.out ((p : Int), (q : Int), 2)) (by have := HRL.out; have := HLEN.out; simp only [List.length_cons, List.length_nil]; omega) (by have := HK.out.size; have := HKS.out.size; simp; omega) ?_; intro v' w2 hown2 hg2 _; have HO2 := Lib.hid hown2; have HG2 := Lib.hid hg2; have HKW := Lib.hid (Kept.ownG (((HK.out.trans HKS.out).alloc _).drew) (((HOWN.out.kept HKS.out).kept ((Kept.refl _).alloc _)).kept (Kept.refl _).drew) hg2 (Nat.le_refl _)); have hc1' : w2.cell? ⟨t, 1, none⟩ = some (.int .i64 q) := hg2.cell ((((Kept.refl wS).alloc _).drew).cell HCS.out) (fun e => by have h1 := (HOWN.out.lt t e.symm).2; have h2 := HT'.out; omega); clear hown2 hg2 hc0 hc1 hc2 hf0 hf1 hf2)
                go_wp2_with fail
                refine (Index_any l (some ⟨B, off, none⟩) c q w2 hll (HL.out.kept (HK1.out.trans HKW.out)) (by have h := HWM.out; rw [WR.out] at h; exact h)).mono ?_
                rintro e w3 ⟨rfl, rfl⟩
                go_wp2
                go_roundg f
                case measure => omega
                case rel =>
                  have hwi := HWI.out
                  rw [WR.out] at hwi
                  refine ⟨_, rs ++ [((p : Int), (q : Int), 2)], rfl, by omega, by simp only at hwi; omega, by have := HFL.out; omega, HO2.out, by have := HRL.out; simp only [List.length_append, List.length_cons, List.length_nil]; omega, HKW.out, fun _ => ?_, fun h => by omega⟩
                  rw [← HTT.out, rsnL_some HP1.out (by rw [HDP.out]; exact HZ.out), WR.out, List.append_assoc, Int.toNat_natCast]
                  rfl
          · have WR : Hid (whyR W dry l D k = ((p : Int), (p' : Int), 1)) := by
              show _ = _
              unfold whyR
              rw [HP1.out, Int.toNat_natCast, whyQ_none (fun r hr => HNO.out r (by have := HQJ.out; omega)), HP1'.out]
            have BX : Hid (wr.cell? ⟨t, 0, none⟩ = some (.int .i64 p) ∧ wr.cell? ⟨t, 1, none⟩ = some (.int .i64 p') ∧ wr.cell? ⟨t, 2, none⟩ = some (.int .u8 1)) := ⟨HKI.out.cell hbx.out.1, HKI.out.cell hbx.out.2.1, HKI.out.cell hbx.out.2.2⟩
            have hc0 := BX.out.1
            have hc1 := BX.out.2.1
            have hc2 := BX.out.2.2
            have htl := lt_of_cell hc0
            go_wp2_with (at_builtin; refine append_g _ rfl _ _ 38 rfl w1.heap.size 44 3 24 _ rsnC rsnC_len rsnC_one Try.underlying38 info44 rfl (by decide) (by decide) u11 rs rfl ((HOWN.out.kept KX.out).kept ((Kept.refl _).alloc _)) wr.heap.size 1 [((p : Int), (p' : Int), 1)] rfl (rsn_new wr ((p : Int), (p' : Int), 1)) (by have := HRL.out; have := HLEN.out; simp only [List.length_cons, List.length_nil]; omega) (by have := HK.out.size; have := KX.out.size; simp; omega) ?_; intro v' w2 hown2 hg2 _; have HO2 := Lib.hid hown2; have HG2 := Lib.hid hg2; have HKW := Lib.hid (Kept.ownG (((HK.out.trans KX.out).alloc _)) ((HOWN.out.kept KX.out).kept ((Kept.refl _).alloc _)) hg2 (Nat.le_refl _)); have hc1' : w2.cell? ⟨t, 1, none⟩ = some (.int .i64 p') := hg2.cell ((((Kept.refl wr).alloc _)).cell hc1) (fun e => by have h1 := (HOWN.out.lt t e.symm).2; have h2 := HT'.out; omega); clear hown2 hg2 hc0 hc1 hc2)
            go_wp2_with fail
            refine (Index_any l (some ⟨B, off, none⟩) c p' w2 hll (HL.out.kept (HK1.out.trans HKW.out)) (by have h := HWM.out; rw [WR.out] at h; exact h)).mono ?_
            rintro e w3 ⟨rfl, rfl⟩
            go_wp2
            go_roundg f
            case measure => omega
            case rel =>
              have hwi := HWI.out
              rw [WR.out] at hwi
              refine ⟨_, rs ++ [((p : Int), (p' : Int), 1)], rfl, by omega, by simp only at hwi; omega, by have := HFL.out; omega, HO2.out, by have := HRL.out; simp only [List.length_append, List.length_cons, List.length_nil]; omega, HKW.out, fun _ => ?_, fun h => by omega⟩
              rw [← HTT.out, rsnL_some HP1.out (by rw [HDP.out]; exact HZ.out), WR.out, List.append_assoc, Int.toNat_natCast]
              rfl

set_option maxHeartbeats 400000 in
theorem Reasons_any (o : Prob) (ao bo : Option Addr) (ca cb : Nat) (dry : Int) (l : List Int) (lo : Option Addr) (c : Nat) (w : World) (ho : IsProb w o ao bo) (hl : Ints w lo l) (hll : l.length < 1152921504606846976) (hlc : l.length ≤ c) :
    Calls Try.prog 31 #[probV o ao ca bo cb, .int .i64 dry, .slice lo l.length c] w (ReasonsPost (ReasonsR o dry l).1 (ReasonsR o dry l).2 w) := by
  by_cases h : datErr o dry l = 0
  · have hr : ReasonsR o dry l = (reasonsL (webOf o) dry l, 0) := by unfold ReasonsR; rw [if_pos h]
    rw [hr]
    exact Reasons_ok o ao bo ca cb dry l lo c w ho hl hll hlc h
  · have hr : ReasonsR o dry l = ([], datErr o dry l) := by unfold ReasonsR; rw [if_neg h]
    rw [hr]
    have HO := Lib.hid ho
    have HL := Lib.hid hl
    have H := Lib.hid h
    have hb : (datErr o dry l != 0) = true := by simp [h]
    clear hr h ho hl
    go_enter Try.func31, Try.ntmps31
    go_wp2_with fail
    obtain ⟨w0, e0, hk0, hb0, -⟩ := alloc_prob w o.N o.arcs o.near ao ca bo cb
    rw [e0]
    clear e0
    have HK0 := Lib.hid hk0
    clear hk0 hb0
    refine (dated_bad o ao bo ca cb dry l lo c w0 (HO.out.kept HK0.out) (HL.out.kept HK0.out) hll H.out).mono ?_
    rintro e w1 ⟨rfl, hk1⟩
    have HK1 := Lib.hid (HK0.out.trans hk1)
    clear hk1
    go_wp2
    go_ret2
    exact ⟨_, rfl, OwnG.nil _ _ _ _ _, HK1.out⟩
end Go.Proofs.Yteljjkghjbofnaa
