/- Counting orders: the model, the memory of the closure that counts. -/
import Derived.Test.YteljjkghjbofnaaWm
import Derived.Maps.OwnSet
import Derived.Maps.OwnIn
set_option maxRecDepth 100000
namespace Go.Proofs.Yteljjkghjbofnaa
open Go Go.Proofs Go.RowKit
open Go.Maps (Keyed)

/-! ### The model -/

/-- How many patches are not in d. -/
def rest (W : Web) (d : S) : Nat := ((List.range W.n).filter fun p => !hasS d p).length
/-- In how many orders what is not in d may follow d. -/
def cntF (W : Web) : Nat → S → Int
  | 0, _ => 0
  | f + 1, d => if d = wholeS W.n then 1 else (readyL W d).foldl (fun s p => wrap64 (s + cntF W f (d ||| oneS p))) 0
def cnt (W : Web) (d : S) : Int := cntF W (rest W d + 1) d
def cntSum (W : Web) (d : S) (l : List Nat) : Int := l.foldl (fun s p => wrap64 (s + cnt W (d ||| oneS p))) 0

theorem filter_length_lt {α : Type} {p q : α → Bool} {l : List α} (h : ∀ x ∈ l, p x = true → q x = true) {y : α} (hy : y ∈ l) (hp : p y = false) (hq : q y = true) : (l.filter p).length < (l.filter q).length := by
  induction l with
  | nil => cases hy
  | cons x l ih =>
    have hle : (l.filter p).length ≤ (l.filter q).length := by
      clear ih hy
      have h' := fun z (hz : z ∈ l) => h z (List.mem_cons_of_mem _ hz)
      clear h
      induction l with
      | nil => simp
      | cons z l ih =>
        have := ih (fun u hu => h' u (List.mem_cons_of_mem _ hu))
        have h1 := h' z (List.mem_cons_self ..)
        simp only [List.filter_cons]
        split <;> split <;> simp_all <;> omega
    rcases List.mem_cons.1 hy with rfl | hy
    · simp [hp, hq]; omega
    · have := ih (fun u hu => h u (List.mem_cons_of_mem _ hu)) hy
      have h1 := h x (List.mem_cons_self ..)
      simp only [List.filter_cons]
      split <;> split <;> simp_all <;> omega

theorem rest_lt {W : Web} {d : S} {p : Nat} (hn : W.n ≤ 32) (h : p ∈ readyL W d) : rest W (d ||| oneS p) < rest W d := by
  obtain ⟨h1, h2⟩ := mem_readyL.1 h
  have hp : hasS d p = false := by unfold readyB at h2; simp at h2; exact h2.1
  unfold rest
  refine filter_length_lt (fun q hq h => ?_) (List.mem_range.2 h1) ?_ ?_
  · have hq' := List.mem_range.1 hq
    simp at h ⊢
    exact h.1
  · rw [hasS_or, hasS_one p p (by omega)]
    simp
  · simp [hp]

theorem cntF_eq {W : Web} (hn : W.n ≤ 32) : ∀ (f : Nat) (d : S), rest W d < f → cntF W f d = cnt W d := by
  suffices h : ∀ (f g : Nat) (d : S), rest W d < f → rest W d < g → cntF W f d = cntF W g d from fun f d hf => h f _ d hf (Nat.lt_succ_self _)
  intro f
  induction f with
  | zero => intro g d h; omega
  | succ f ih =>
    intro g d hf hg
    cases g with
    | zero => omega
    | succ g =>
      unfold cntF
      split
      · rfl
      · have e : ∀ (l : List Nat), (∀ p ∈ l, p ∈ readyL W d) → ∀ s, l.foldl (fun s p => wrap64 (s + cntF W f (d ||| oneS p))) s = l.foldl (fun s p => wrap64 (s + cntF W g (d ||| oneS p))) s := by
          intro l
          induction l with
          | nil => intro _ s; rfl
          | cons p l ihl =>
            intro hl s
            have hr := rest_lt hn (hl p (List.mem_cons_self ..))
            simp only [List.foldl_cons]
            rw [ih g _ (by omega) (by omega)]
            exact ihl (fun q hq => hl q (List.mem_cons_of_mem _ hq)) _
        exact e _ (fun _ h => h) 0
theorem cnt_eq {W : Web} (hn : W.n ≤ 32) (d : S) : cnt W d = if d = wholeS W.n then 1 else cntSum W d (readyL W d) := by
  rw [← cntF_eq hn (rest W d + 1) d (Nat.lt_succ_self _)]
  conv => lhs; unfold cntF
  split
  · rfl
  · unfold cntSum
    have e : ∀ (l : List Nat), (∀ p ∈ l, p ∈ readyL W d) → ∀ s, l.foldl (fun s p => wrap64 (s + cntF W (rest W d) (d ||| oneS p))) s = l.foldl (fun s p => wrap64 (s + cnt W (d ||| oneS p))) s := by
      intro l
      induction l with
      | nil => intro _ s; rfl
      | cons p l ihl =>
        intro hl s
        have hr := rest_lt hn (hl p (List.mem_cons_self ..))
        simp only [List.foldl_cons]
        rw [cntF_eq hn _ _ (by omega)]
        exact ihl (fun q hq => hl q (List.mem_cons_of_mem _ hq)) _
    exact e _ (fun _ h => h) 0

theorem wrap64_wf' (x : Int) : (Lit.int .i64 (wrap64 x)).wf = true := wrap64_wf x
theorem cntSum_wf (W : Web) (d : S) (l : List Nat) : (Lit.int .i64 (cntSum W d l)).wf = true := by
  unfold cntSum
  rcases List.eq_nil_or_concat l with rfl | ⟨l', p, rfl⟩
  · exact (by decide : (Lit.int .i64 0).wf = true)
  · simp only [List.concat_eq_append, List.foldl_append, List.foldl_cons, List.foldl_nil]
    exact wrap64_wf _
theorem cnt_wf {W : Web} (hn : W.n ≤ 32) (d : S) : (Lit.int .i64 (cnt W d)).wf = true := by
  rw [cnt_eq hn]
  split
  · decide
  · exact cntSum_wf _ _ _

/-! ### The map -/

def keyS (d : S) : Lit := .int .u32 (sI d)
theorem keyS_wf (d : S) : (keyS d).wf = true := by
  have := d.isLt
  unfold keyS sI
  simp only [Lit.wf, Bool.and_eq_true, decide_eq_true_eq]
  exact ⟨by show (0 : Int) ≤ _; omega, by show _ ≤ (4294967295 : Int); omega⟩
theorem keyOfS (d : S) : keyOf Try.prog 93 (.int .u32 (sI d)) = some (keyS d) := Maps.keyOf_int_mk Try.underlying93 (keyS_wf d)
theorem keyed93 : Keyed Try.prog 93 := Maps.int_keyed Try.underlying93
theorem keyS_inj {a b : S} (h : keyS a = keyS b) : a = b := by
  unfold keyS sI at h
  simp only [Lit.int.injEq, true_and] at h
  exact BitVec.eq_of_toNat_eq (by omega)

theorem nodup_bound {l : List Nat} {N : Nat} (h : l.Nodup) (hb : ∀ x ∈ l, x < N) : l.length ≤ N := by
  have := List.Nodup.length_le_of_subset h (fun x hx => List.mem_range.2 (hb x hx))
  simpa using this

theorem keyOf93 {v : Value} {l : Lit} (h : keyOf Try.prog 93 v = some l) : ∃ a : Int, l = .int .u32 a ∧ 0 ≤ a ∧ a ≤ 4294967295 := by
  have e : keyOf Try.prog 93 v = mapKey Try.prog 93 v := by simp [keyOf, Try.underlying93]
  rw [e] at h
  cases v <;> simp [mapKey, Try.underlying93] at h
  obtain ⟨⟨rfl, hw⟩, rfl⟩ := h
  refine ⟨_, rfl, ?_⟩
  simp only [Lit.wf, Bool.and_eq_true, decide_eq_true_eq] at hw
  exact ⟨hw.1, hw.2⟩

theorem owns_tight {w : World} {R : Value → Option (DataW Unit × List MemPlace)} {b n : Nat} {D : DataW Unit} (h : w.ownsMap Try.prog 93 R b n D) : w.ownsMap Try.prog 93 R b 4294967296 D := by
  obtain ⟨es, clock, hb, F, hs, hD⟩ := h
  refine ⟨es, clock, hb, F, ?_, hD⟩
  have hk := Maps.fit_keys F
  have ha := Maps.fit_apart keyed93 F
  generalize hL : es.toList.map (WideElems.rg Try.prog 93 R) = L at hk ha
  have hlen : L.length = es.size := by rw [← hL]; simp
  have hn : (L.map fun p => match p.1 with | .int _ a => a.toNat | _ => 0).Nodup := by
    rw [List.nodup_iff_pairwise_ne, List.pairwise_map]
    refine List.Pairwise.imp_of_mem (fun {x y} hx hy hne he => ?_) ha
    obtain ⟨v, hv⟩ := hk x hx
    obtain ⟨u, hu⟩ := hk y hy
    obtain ⟨a, ea, ha1, ha2⟩ := keyOf93 hv
    obtain ⟨b, eb, hb1, hb2⟩ := keyOf93 hu
    rw [ea, eb] at he
    simp only at he
    exact hne (by rw [ea, eb, show a = b by omega])
  have := nodup_bound (N := 4294967296) hn (fun x hx => by
    obtain ⟨p, hp, rfl⟩ := List.mem_map.1 hx
    obtain ⟨v, hv⟩ := hk p hp
    obtain ⟨a, ea, ha1, ha2⟩ := keyOf93 hv
    rw [ea]
    simp only
    omega)
  rw [List.length_map, hlen] at this
  exact this

/-- What the closure that counts looks into: the boxes of the map, of the web and of itself; each number in the map is right. -/
structure Memo (kb wb cb mb b : Nat) (W : Web) (X : World) : Prop where
  known : X.cell? ⟨kb, 0, none⟩ = some (.map (some mb))
  web : X.cell? ⟨wb, 0, none⟩ = some (.pointer (some ⟨b, 0, none⟩))
  clo : X.cell? ⟨cb, 0, none⟩ = some (.func (.func 145) #[] #[.pointer (some ⟨kb, 0, none⟩), .pointer (some ⟨wb, 0, none⟩), .pointer (some ⟨cb, 0, none⟩)])
  at_ : WebAt X b W
  map : ∃ D : DataW Unit, X.ownsMap Try.prog 93 (plainElem Try.prog 3) mb 4294967296 D ∧ (∀ d, Maps.has D (keyS d) = true → D.atKey (keyS d) (.lit (.int .i64 0)) = .lit (.int .i64 (cnt W d))) ∧ Maps.has D (keyS (wholeS W.n)) = true

section
variable {kb wb cb mb b : Nat} {W : Web} {X Y : World}
theorem Memo.kept {row : Option Nat} (h : Memo kb wb cb mb b W X) (hg : X.grownBy Y row) (h1 : some kb ≠ row) (h2 : some wb ≠ row) (h3 : some cb ≠ row) (h4 : some mb ≠ row) (h5 : some b ≠ row) : Memo kb wb cb mb b W Y :=
  ⟨hg.cell h.known h1, hg.cell h.web h2, hg.cell h.clo h3, h.at_.grownNe hg h5, let ⟨D, d1, d2⟩ := h.map; ⟨D, d1.kept hg h4, d2⟩⟩
theorem Memo.lt (h : Memo kb wb cb mb b W X) : kb < X.heap.size ∧ wb < X.heap.size ∧ cb < X.heap.size ∧ mb < X.heap.size ∧ b < X.heap.size :=
  ⟨lt_of_cell h.known, lt_of_cell h.web, lt_of_cell h.clo, let ⟨_, d1, _⟩ := h.map; d1.lt, lt_of_cell h.at_.n⟩
theorem Memo.past (h : Memo kb wb cb mb b W X) {B : Nat} {row : Option Nat} (hg : X.grownBy Y row) (hB : kb < B ∧ wb < B ∧ cb < B ∧ mb < B ∧ b < B) (hr : ∀ r, row = some r → B ≤ r) : Memo kb wb cb mb b W Y :=
  h.kept hg (fun e => by have := hr _ e.symm; omega) (fun e => by have := hr _ e.symm; omega) (fun e => by have := hr _ e.symm; omega) (fun e => by have := hr _ e.symm; omega) (fun e => by have := hr _ e.symm; omega)
theorem Memo.ne (h : Memo kb wb cb mb b W X) : kb ≠ mb ∧ wb ≠ mb ∧ cb ≠ mb ∧ b ≠ mb := by
  obtain ⟨D, ⟨es, clock, hb, _⟩, _⟩ := h.map
  refine ⟨fun e => ?_, fun e => ?_, fun e => ?_, fun e => ?_⟩
  · have := h.known; rw [e] at this; simp [World.cell?, hb] at this
  · have := h.web; rw [e] at this; simp [World.cell?, hb] at this
  · have := h.clo; rw [e] at this; simp [World.cell?, hb] at this
  · have := h.at_.n; rw [e] at this; simp [World.cell?, hb] at this
theorem Memo.keptBy (h : Memo kb wb cb mb b W X) (hk : Kept X Y) : Memo kb wb cb mb b W Y := by
  obtain ⟨D, ⟨es, clock, hb, F, hs, hD⟩, d2⟩ := h.map
  exact ⟨hk.cell h.known, hk.cell h.web, hk.cell h.clo, h.at_.kept hk, D, ⟨es, clock, (hk.below.block mb (Array.getElem?_eq_some_iff.1 hb).1).trans hb, F, hs, hD⟩, d2⟩
/-- The map has got a number more. -/
theorem Memo.put {n : Nat} {D : DataW Unit} (h : Memo kb wb cb mb b W X) (hD : Maps.has D (keyS (wholeS W.n)) = true) (hs : ∀ d, Maps.has D (keyS d) = true → D.atKey (keyS d) (.lit (.int .i64 0)) = .lit (.int .i64 (cnt W d))) (hm : Maps.IsMap D)
    {d : S} (hown : Y.ownsMap Try.prog 93 (plainElem Try.prog 3) mb n (D.put (keyS d) (.lit (.int .i64 (cnt W d))))) (hg : X.grownBy Y (some mb)) : Memo kb wb cb mb b W Y := by
  obtain ⟨n1, n2, n3, n4⟩ := h.ne
  have hne : ∀ {k : Nat}, k ≠ mb → some k ≠ some mb := fun h e => h (Option.some.inj e)
  refine ⟨hg.cell h.known (hne n1), hg.cell h.web (hne n2), hg.cell h.clo (hne n3), h.at_.grownNe hg (hne n4), _, owns_tight hown, fun d' hd' => ?_, ?_⟩
  · by_cases e : d' = d
    · subst e
      exact Maps.atKey_put_same hm (keyed93.key (keyOfS _)) _ _
    · have hk : keyS d' ≠ keyS d := fun h => e (keyS_inj h)
      rw [Maps.atKey_put_other hk]
      rw [Maps.has_put_other hk] at hd'
      exact hs d' hd'
  · by_cases e : wholeS W.n = d
    · rw [e]; exact Maps.has_put_same hm (keyed93.key (keyOfS _)) _
    · rw [Maps.has_put_other (fun h => e (keyS_inj h))]
      exact hD
end

end Go.Proofs.Yteljjkghjbofnaa
