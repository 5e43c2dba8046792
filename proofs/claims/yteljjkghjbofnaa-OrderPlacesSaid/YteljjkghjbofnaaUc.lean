/- order.Rank. -/
import Derived.Test.YteljjkghjbofnaaUb
set_option maxRecDepth 100000
namespace Go.Proofs.Yteljjkghjbofnaa
open Go Go.Proofs Go.RowKit
attribute [local go_sem] Oper.semAt_some

def foldC (W : Web) (d : S) (n : Int) (ps : List Nat) : Int := ps.foldl (fun s p => wrap64 (s + cnt W (d ||| oneS p))) n
theorem foldC_snoc (W : Web) (d : S) (n : Int) (ps : List Nat) (p : Nat) : foldC W d n (ps ++ [p]) = wrap64 (foldC W d n ps + cnt W (d ||| oneS p)) := by
  unfold foldC; rw [List.foldl_append]; rfl
/-- The patches before x that may come next: a beginning of all that may come next. -/
theorem ready_before {W : Web} {d : S} {x : Nat} (hx : x ≤ W.n) {A B : List Nat} (h : readyL W d = A ++ B) (hA : ∀ p ∈ A, p < x) (hB : ∀ p ∈ B, x ≤ p) : (List.range x).filter (readyB W d) = A := by
  have e : List.range W.n = List.range x ++ (List.range (W.n - x)).map (x + ·) := by rw [← List.range_add]; congr 1; omega
  have h1 : (readyL W d).filter (fun p => decide (p < x)) = A := by
    rw [h, List.filter_append, List.filter_eq_self.2 (fun p hp => by simpa using hA p hp), List.filter_eq_nil_iff.2 (fun p hp => by have := hB p hp; simp; omega), List.append_nil]
  rw [← h1]
  unfold readyL
  rw [e, List.filter_append, List.filter_append]
  have e1 : ((List.range x).filter (readyB W d)).filter (fun p => decide (p < x)) = (List.range x).filter (readyB W d) :=
    List.filter_eq_self.2 (fun p hp => by simpa using List.mem_range.1 (List.mem_filter.1 hp).1)
  have e2 : (((List.range (W.n - x)).map (x + ·)).filter (readyB W d)).filter (fun p => decide (p < x)) = [] :=
    List.filter_eq_nil_iff.2 (fun p hp => by
      obtain ⟨q, _, rfl⟩ := List.mem_map.1 (List.mem_filter.1 hp).1
      simp)
  rw [e1, e2, List.append_nil]
theorem readyL_rising (W : Web) (d : S) : (readyL W d).Pairwise (· < ·) := List.Pairwise.filter _ List.pairwise_lt_range
theorem rankSum_stop {W : Web} {d : S} {n : Int} {x : Nat} (hx : x ≤ W.n) {A : List Nat} {y : Nat} {R : List Nat} (h : readyL W d = A ++ y :: R) (hA : ∀ p ∈ A, p < x) (hy : x ≤ y) : rankSum W d n x = foldC W d n A := by
  unfold rankSum foldC
  rw [ready_before hx h hA]
  intro p hp
  have hr := readyL_rising W d
  rw [h] at hr
  have h2 := (List.pairwise_append.1 hr).2.1
  rcases List.mem_cons.1 hp with rfl | hp
  · exact hy
  · have := List.rel_of_pairwise_cons h2 hp; omega
theorem rankSum_done {W : Web} {d : S} {n : Int} {x : Nat} (hx : x ≤ W.n) (hA : ∀ p ∈ readyL W d, p < x) : rankSum W d n x = foldC W d n (readyL W d) := by
  unfold rankSum foldC
  rw [ready_before (B := []) hx (List.append_nil _).symm hA (fun p hp => by cases hp)]

theorem orderedB_in {W : Web} {l : List Int} (h : orderedB W l = true) : ∀ i, (hi : i < l.length) → 0 ≤ l[i] ∧ l[i] < (W.n : Int) := fun i hi => by
  unfold orderedB eachB at h
  simp only [Bool.and_eq_true, decide_eq_true_eq] at h
  exact h.1.2.1 _ (List.getElem_mem hi)

structure CX (c8 kb wb cb mb b : Nat) (W : Web) (X : World) : Prop where
  memo : Memo kb wb cb mb b W X
  fn : X.cell? ⟨c8, 0, none⟩ = some (closureV kb wb cb)
structure CB (B0 B c8 kb wb cb mb b : Nat) : Prop where
  lo : B0 ≤ mb
  hi : c8 < B ∧ kb < B ∧ wb < B ∧ cb < B ∧ mb < B ∧ b < B
  ne : c8 ≠ mb
section
variable {B0 B c8 kb wb cb mb b : Nat} {W : Web} {X Y : World}
theorem CX.past (h : CX c8 kb wb cb mb b W X) (hb : CB B0 B c8 kb wb cb mb b) {row : Option Nat} (hg : X.grownBy Y row) (hr : ∀ r, row = some r → B ≤ r) : CX c8 kb wb cb mb b W Y := by
  have h1 := hb.hi
  have e1 : some c8 ≠ row := fun e => by have := hr _ e.symm; omega
  exact ⟨h.memo.past hg ⟨h1.2.1, h1.2.2.1, h1.2.2.2.1, h1.2.2.2.2.1, h1.2.2.2.2.2⟩ hr, hg.cell h.fn e1⟩
theorem CX.turn (h : CX c8 kb wb cb mb b W X) (hb : CB B0 B c8 kb wb cb mb b) (hg : X.grownBy Y (some mb)) (hm : Memo kb wb cb mb b W Y) : CX c8 kb wb cb mb b W Y :=
  ⟨hm, hg.cell h.fn (fun e => hb.ne (Option.some.inj e))⟩
theorem CX.keptBy (h : CX c8 kb wb cb mb b W X) (hk : Kept X Y) : CX c8 kb wb cb mb b W Y := ⟨h.memo.keptBy hk, hk.cell h.fn⟩
theorem CX.setOther (h : CX c8 kb wb cb mb b W X) (hb : CB B0 B c8 kb wb cb mb b) {p : Nat} (hp : B ≤ p) (u : Value) : CX c8 kb wb cb mb b W (X.setCell ⟨p, 0, none⟩ u) :=
  h.past hb (grownBy_setCell' X p u) (fun r e => by cases e; exact hp)
end

def RankInv (w : World) (bn bd base c8 kb wb cb mb b : Nat) (W : Web) (l : List Int) (lo : Option Addr) (c : Nat) (a : Act) (X : World) : Prop :=
  ∃ (k : Nat) (Ds : List Nat) (u0 u2 u3 u4 u5 u7 u11 u12 u13 u14 u15 u16 u17 u18 u19 u20 u21 u22 u23 u24 u25 u26 u27 u31 u32 u33 u34 u35 u36 u37 u38 u39 u40 u41 u42 u43 u44 u45 u46 u47 u48 u49 u50 u51 u52 u53 u54 : Value), a = { tmps := #[u0, .slice lo l.length c, u2, u3, u4, u5, .pointer (some ⟨b, 0, none⟩), u7, .pointer (some ⟨c8, 0, none⟩), .pointer (some ⟨bn, 0, none⟩), .pointer (some ⟨bd, 0, none⟩), u11, u12, u13, u14, u15, u16, u17, u18, u19, u20, u21, u22, u23, u24, u25, u26, u27, .slice lo l.length c, .int .i64 (l.length : Int), .int .i64 (k : Int), u31, u32, u33, u34, u35, u36, u37, u38, u39, u40, u41, u42, u43, u44, u45, u46, u47, u48, u49, u50, u51, u52, u53, u54], defers := marks Ds } ∧
    k ≤ l.length ∧ FSt w bn bd base Ds (.int .i64 (rankAt W l k)) (setS (l.take k)) (.slice none 0 0) [] X ∧ Ds.Nodup ∧ CX c8 kb wb cb mb b W X

set_option maxHeartbeats 1600000 in
theorem Rank_any (o : Prob) (ao bo : Option Addr) (ca cb' : Nat) (l : List Int) (lo : Option Addr) (c : Nat) (w : World) (ho : IsProb w o ao bo) (hl : Ints w lo l) (hll : l.length < 1152921504606846976) :
    Calls Try.prog 51 #[probV o ao ca bo cb', .slice lo l.length c] w (Gives (.tuple #[.int .i64 (RankR o l).1, .int .i64 (RankR o l).2]) w) := by
  have HO := Lib.hid ho
  have HL := Lib.hid hl
  clear ho hl
  obtain ⟨r1, hr1⟩ : ∃ r, (RankR o l).1 = r := ⟨_, rfl⟩
  obtain ⟨r2, hr2⟩ : ∃ r, (RankR o l).2 = r := ⟨_, rfl⟩
  rw [hr1, hr2]
  have HR1 := Lib.hid hr1
  have HR2 := Lib.hid hr2
  clear hr1 hr2
  refine calls_of_wp_marks Try.func51 rfl ?_
  simp only [Try.ntmps51, List.size_toArray, List.length_cons, List.length_nil, Nat.reduceAdd, Nat.reduceSub, Array.replicate_succ, Array.replicate_zero, List.push_toArray, List.append_toArray, List.nil_append, List.cons_append]
  go_wp2_with fail
  obtain ⟨w0, e0, hk0, -, -⟩ := alloc_prob w o.N o.arcs o.near ao ca bo cb'
  rw [e0]
  clear e0
  have HK0 := Lib.hid hk0
  clear hk0
  by_cases he : errC o = 0
  case neg =>
    have HX : Hid (0 = r1 ∧ errC o = r2) := Lib.hid (by rw [← HR1.out, ← HR2.out]; unfold RankR; rw [if_neg he]; exact ⟨rfl, rfl⟩)
    have e1 : (errC o != 0) = true := by simp [he]
    refine (counted_bad o ao bo ca cb' w0 (HO.out.kept HK0.out) he).mono ?_
    rintro e w1 ⟨rfl, hk⟩
    have HK1 := Lib.hid (HK0.out.trans hk)
    clear hk he
    go_wp2
    refine leaves_marks (B := w.heap.size) [] _ (fun D hD => by cases hD) List.nodup_nil (fun w' hs => ⟨_, results_tmp2 rfl _ _ _, ?_⟩)
    rw [← HX.out.1, ← HX.out.2]
    exact ⟨rfl, hs.kept HK1.out (Nat.le_refl _)⟩
  have HE := Lib.hid he
  have hn := (errC_ok he).2
  refine (counted_ok o ao bo ca cb' w0 (HO.out.kept HK0.out) he).mono ?_
  rintro e w2 ⟨b, rfl, hw2, hk2⟩
  have HK2 := Lib.hid (HK0.out.trans hk2)
  have HW2 := Lib.hid hw2
  have HR : Hid (RankR o l = if orderedB (webOf o) l = true then (rankAt (webOf o) l l.length, 0) else (0, 1)) := by
    show _ = _
    unfold RankR
    rw [if_pos HE.out]
  clear hk2 hw2 he
  generalize hW : webOf o = W at *
  clear HE HO hW
  go_wp2_with fail
  refine (ordered_any b W l lo c w2 HW2.out (by omega) (HL.out.kept HK2.out) hll).mono ?_
  rintro e w1 ⟨rfl, rfl⟩
  cases hor : orderedB W l
  · have HX : Hid (0 = r1 ∧ 1 = r2) := Lib.hid (by rw [← HR1.out, ← HR2.out, HR.out, if_neg (by rw [hor]; simp)]; exact ⟨rfl, rfl⟩)
    clear hor
    go_wp2
    refine leaves_marks (B := w.heap.size) [] _ (fun D hD => by cases hD) List.nodup_nil (fun w' hs => ⟨_, results_tmp2 rfl _ _ _, ?_⟩)
    rw [← HX.out.1, ← HX.out.2]
    exact ⟨rfl, hs.kept HK2.out (Nat.le_refl _)⟩
  have HX : Hid (rankAt W l l.length = r1 ∧ 0 = r2) := Lib.hid (by rw [← HR1.out, ← HR2.out, HR.out, if_pos hor]; exact ⟨rfl, rfl⟩)
  have HIN : Hid (∀ i, (h : i < l.length) → 0 ≤ l[i] ∧ l[i] < (W.n : Int)) := Lib.hid (orderedB_in hor)
  clear hor HR
  go_wp2_with fail
  refine (counter_any b W (by omega) w2 HW2.out).mono ?_
  rintro e w3 ⟨kb, wb, cb, mb, rfl, hm, h1, h2, h3, h4, hk3⟩
  have HM3 := Lib.hid hm
  have HK3 := Lib.hid (HK2.out.trans hk3)
  have HMB : Hid (w.heap.size ≤ mb) := Lib.hid (by have := HK2.out.size; omega)
  clear hm h1 h2 h3 h4 hk3 HW2 HK2
  unfold closureV
  have hsf := fun (a : Addr) (c : Array Value) (w : World) => run_store Try.prog w a (.func (.func 145) #[] c) .plain rfl
  go_wp2
  clear hsf
  have hc8 : (w3.alloc (.cells #[closureV kb wb cb] 121)).cell? ⟨w3.heap.size, 0, none⟩ = some (closureV kb wb cb) := by simp [go_sem]
  have hka : Kept w3 (w3.alloc (.cells #[closureV kb wb cb] 121)) := (Kept.refl w3).alloc _
  have hszz : (w3.alloc (.cells #[closureV kb wb cb] 121)).heap.size = w3.heap.size + 1 := by simp
  unfold closureV at hc8 hka hszz
  generalize hw4 : (w3.alloc (.cells #[.func (.func 145) #[] #[.pointer (some ⟨kb, 0, none⟩), .pointer (some ⟨wb, 0, none⟩), .pointer (some ⟨cb, 0, none⟩)]] 121)) = w4 at *
  clear hw4
  have HSS := Lib.hid hszz
  have HM4 := Lib.hid (HM3.out.keptBy hka)
  have HK4 := Lib.hid (HK3.out.trans hka)
  have HL3 := Lib.hid HM3.out.lt
  have hst0 : FSt w w4.heap.size (w4.heap.size + 1) (w4.heap.size + 2) [] (.int .i64 0) (setS []) (.slice none 0 0) [] ((w4.alloc (.cells #[.int .i64 0] 3)).alloc (.cells #[.int .u32 0] 93)) :=
    ⟨(HK4.out.alloc _).alloc _, by simp, by simp [go_sem], by simp [go_sem], by simp [go_sem]; rfl, by simp [go_sem], OwnI.nil _ _, fun D h => by cases h⟩
  have hx0 : CX w3.heap.size kb wb cb mb b W ((w4.alloc (.cells #[.int .i64 0] 3)).alloc (.cells #[.int .u32 0] 93)) :=
    CX.keptBy (X := w4) ⟨HM4.out, hc8⟩ (((Kept.refl w4).alloc _).alloc _)
  rw [hszz] at hst0
  generalize ((w4.alloc (.cells #[.int .i64 0] 3)).alloc (.cells #[.int .u32 0] 93)) = Z0 at *
  have hszw := HK3.out.size
  obtain ⟨c8, hc8e⟩ : ∃ c8, w3.heap.size = c8 := ⟨_, rfl⟩
  rw [hc8e] at hst0 hx0 HL3 hszw ⊢
  obtain ⟨bn, hbn⟩ : ∃ bn, c8 + 1 = bn := ⟨_, rfl⟩
  rw [hbn] at hst0 ⊢
  obtain ⟨bd, hbd⟩ : ∃ bd, bn + 1 = bd := ⟨_, rfl⟩
  rw [hbd] at hst0 ⊢
  obtain ⟨base, hbase⟩ : ∃ base, bn + 2 = base := ⟨_, rfl⟩
  rw [hbase] at hst0
  have HCB : Hid (CB w.heap.size bn c8 kb wb cb mb b) := Lib.hid (by
    have h1 := HL3.out
    have h2 := HMB.out
    exact ⟨by omega, ⟨by omega, by omega, by omega, by omega, by omega, by omega⟩, by omega⟩)
  have HB : Hid (w.heap.size ≤ bn ∧ bn < bd ∧ bd < base) := Lib.hid ⟨by omega, by omega, by omega⟩
  clear hbn hbd hbase hc8e hszw HSS hszz hc8 hka HL3 HMB HM3 HK3 HM4 HK4
  have HST0 := Lib.hid hst0
  have HX0 := Lib.hid hx0
  clear hst0 hx0
  refine wp_loop (RankInv w bn bd base c8 kb wb cb mb b W l lo c) (fun a _ => l.length - (intOf (a.tmps.getD 30 undef)).toNat) ⟨0, [], _, _, _, _, _, _, _, _, _, _, _, _, _, _, _, _, _, _, _, _, _, _, _, _, _, _, _, _, _, _, _, _, _, _, _, _, _, _, _, _, _, _, _, _, _, _, _, rfl, Nat.zero_le _, HST0.out, List.nodup_nil, HX0.out⟩ ?_
  rintro a X ⟨k, Ds, u0, u2, u3, u4, u5, u7, u11, u12, u13, u14, u15, u16, u17, u18, u19, u20, u21, u22, u23, u24, u25, u26, u27, u31, u32, u33, u34, u35, u36, u37, u38, u39, u40, u41, u42, u43, u44, u45, u46, u47, u48, u49, u50, u51, u52, u53, u54, rfl, hk, hst, hnd, hx⟩
  clear HST0 HX0
  have HST := Lib.hid hst
  have HND := Lib.hid hnd
  have HXC := Lib.hid hx
  clear hst hnd hx
  by_cases hlt : k < l.length
  · have HLT := Lib.hid hlt
    have hin := HIN.out k hlt
    have hcx := (HL.out.kept HST.out.kept) k hlt
    have HNEXT : Hid (rankAt W l (k + 1) = rankSum W (setS (l.take k)) (rankAt W l k) l[k].toNat) := Lib.hid (by
      show rankSum _ _ _ (l.getD k 0).toNat = _
      exact congrArg (fun z : Int => rankSum W (setS (l.take k)) (rankAt W l k) z.toNat) (getD_mem hlt))
    have HTK : Hid (setS (l.take (k + 1)) = setS (l.take k) ||| oneS l[k].toNat) := Lib.hid (by rw [List.take_succ_eq_append_getElem hlt]; exact setS_snoc _ _)
    generalize l[k] = xi at *
    obtain ⟨x, rfl⟩ : ∃ x : Nat, xi = x := ⟨xi.toNat, by omega⟩
    rw [Int.toNat_natCast] at HNEXT HTK
    obtain ⟨B, off, rfl, hc⟩ := hcx
    have HXN : Hid (x < W.n) := Lib.hid (by omega)
    generalize rankAt W l k = n0 at *
    have hcd := HST.out.cd
    have hbl := lt_of_cell hcd
    clear hin
    go_wp2_with fail
    obtain ⟨xb, hxb⟩ : ∃ xb, X.heap.size = xb := ⟨_, rfl⟩
    have hcxb : (X.alloc (.cells #[.int .i64 (x : Int)] 3)).cell? ⟨X.heap.size, 0, none⟩ = some (.int .i64 (x : Int)) := by simp [go_sem]
    have hkx : Kept X (X.alloc (.cells #[.int .i64 (x : Int)] 3)) := (Kept.refl X).alloc _
    rw [hxb] at hcxb ⊢
    have HXB : Hid (base ≤ xb) := Lib.hid (by rw [← hxb]; exact HST.out.sz)
    generalize (X.alloc (.cells #[.int .i64 (x : Int)] 3)) = X0 at *
    refine (ready_any b W (setS (l.take k)) _ ((HXC.out.memo.at_.kept hkx))).mono ?_
    rintro e X1 ⟨c1, c2, rfl, hc1, hc2, hstat, hk1⟩
    have HS1 := Lib.hid hstat
    have HST1 := Lib.hid ((HST.out.keptBy hkx).keptBy hk1)
    have HX1 := Lib.hid ((HXC.out.keptBy hkx).keptBy hk1)
    have HCX1 := Lib.hid (hk1.cell hcxb)
    have HC : Hid (bn < c1 ∧ bn < c2 ∧ mb < c1 ∧ mb < c2 ∧ xb < c1 ∧ xb < c2) := by
      have h1 := lt_of_cell hcxb
      have h2 := HXB.out
      have h4 := HCB.out.hi
      have h5 := HB.out
      exact ⟨by omega, by omega, by omega, by omega, by omega, by omega⟩
    have HBX : Hid (xb < X1.heap.size) := Lib.hid (lt_of_cell HCX1.out)
    clear hstat hk1 hcd hbl hc1 hc2 hcxb hkx hxb hc
    go_wp2_with fail
    refine range_ready (c1 := c1) (c2 := c2) (b := b) (W := W) (d := setS (l.take k)) rfl HS1.out (by omega) rfl
      (fun pre Y => FSt w bn bd base Ds (.int .i64 (foldC W (setS (l.take k)) n0 (pre.map Subtype.val))) (setS (l.take k)) (.slice none 0 0) [] Y ∧ CX c8 kb wb cb mb b W Y ∧ Y.cell? ⟨xb, 0, none⟩ = some (.int .i64 (x : Int)) ∧ ∀ p ∈ pre, p.val < x)
      (fun cd pre Y => cd = .exit 2 ∧ ∃ (pre' : List (Rdy W (setS (l.take k)))) (y : Rdy W (setS (l.take k))), pre = pre' ++ [y] ∧ x ≤ y.val ∧ FSt w bn bd base Ds (.int .i64 (foldC W (setS (l.take k)) n0 (pre'.map Subtype.val))) (setS (l.take k)) (.slice none 0 0) [] Y ∧ CX c8 kb wb cb mb b W Y ∧ Y.cell? ⟨xb, 0, none⟩ = some (.int .i64 (x : Int)) ∧ ∀ p ∈ pre', p.val < x)
      ?hI ?hIx ⟨HST1.out, HX1.out, HCX1.out, fun p hp => by cases hp⟩
      (fun p => { tmps := #[u0, .slice (some ⟨B, off, none⟩) l.length c, u2, u3, u4, u5, .pointer (some ⟨b, 0, none⟩), u7, .pointer (some ⟨c8, 0, none⟩), .pointer (some ⟨bn, 0, none⟩), .pointer (some ⟨bd, 0, none⟩), u11, .pointer (some ⟨xb, 0, none⟩), .int .i64 p.val, u14, u15, u16, u17, u18, u19, u20, u21, u22, u23, u24, u25, u26, u27, .slice (some ⟨B, off, none⟩) l.length c, .int .i64 (l.length : Int), .int .i64 (k : Int), .bool true, .pointer (some ⟨B, off + k, none⟩), .int .i64 (x : Int), .pointer (some ⟨b, 0, none⟩), .int .u32 (sI (setS (l.take k))), .func (.func 146) #[] #[.pointer (some ⟨c1, 0, none⟩), .pointer (some ⟨c2, 0, none⟩)], .int .i64 p.val, u38, u39, u40, u41, u42, u43, u44, u45, u46, u47, u48, u49, u50, u51, u52, u53, u54], defers := [] }) ?assign ?body ?done ?stop
    case hI =>
      rintro s A B' row ⟨h1, h2, h3, h4⟩ hg hr
      exact ⟨h1.grown hg hr HST1.out.kept.size (fun D hD => (Array.getElem?_eq_some_iff.1 (HST1.out.ds D hD).2).1), h2.past HCB.out hg (fun r e => by have := (hr r e).1; have := HBX.out; have := HXB.out; have := HB.out; omega), hg.cell h3 (fun e => by have := (hr xb e.symm).1; have := HBX.out; omega), h4⟩
    case hIx =>
      rintro cd s A B' row ⟨e, pre', y, h0, h00, h1, h2, h3, h4⟩ hg hr
      exact ⟨e, pre', y, h0, h00, h1.grown hg hr HST1.out.kept.size (fun D hD => (Array.getElem?_eq_some_iff.1 (HST1.out.ds D hD).2).1), h2.past HCB.out hg (fun r e => by have := (hr r e).1; have := HBX.out; have := HXB.out; have := HB.out; omega), hg.cell h3 (fun e => by have := (hr xb e.symm).1; have := HBX.out; omega), h4⟩
    case assign =>
      intro lb p Y K hK
      gi_wp2
      exact hK

    case done =>
      rintro D xs Y hD hxs ⟨hst2, hx2, hcx, hlt2⟩ hdef
      have hsum : rankSum W (setS (l.take k)) n0 x = foldC W (setS (l.take k)) n0 (xs.map Subtype.val) := by
        rw [hxs]
        refine rankSum_done (Nat.le_of_lt HXN.out) (fun p hp => ?_)
        rw [← hxs] at hp
        obtain ⟨q, hq, rfl⟩ := List.mem_map.1 hp
        exact hlt2 q hq
      clear hxs hlt2
      generalize foldC W (setS (l.take k)) n0 (xs.map Subtype.val) = n1 at *
      have HSUM := Lib.hid hsum
      have HST2 := Lib.hid hst2
      have HX2 := Lib.hid hx2
      have HDEF := Lib.hid hdef
      have HPD := Lib.hid hD
      have hcd := hst2.cd
      have hfd := hst2.fd
      have hx32 : x < 32 := by have := HXN.out; omega
      have hxi : (x : Int) < 32 := by omega
      clear hsum hst2 hx2 hdef hD
      go_wp2
      refine region_tail 4 (by kernel_rfl) (by kernel_rfl) ?_
      simp only [List.take_succ_cons, List.take_zero, List.drop_succ_cons, List.drop_zero]
      repeat still_step
      still_call Calls_still (one_any x _ hx32)
      repeat still_step
      refine wpStill_nil ?_
      go_wp2
      have hF9 := (((HST2.out.keptBy (Kept.refl _).drew).setDone (by have := HB.out; omega) HB.out.2.2 (by have := HB.out; omega) (setS (l.take k) ||| oneS x)))
      refine ⟨⟨k + 1, D :: Ds, _, _, _, _, _, _, _, _, _, _, _, _, _, _, _, _, _, _, _, _, _, _, _, _, _, _, _, _, _, _, _, _, _, _, _, _, _, _, _, _, _, _, _, _, _, _, _, rfl, HLT.out, ?_, ?_, ?_⟩, ?_⟩
      · rw [HTK.out, HNEXT.out, HSUM.out]
        exact ⟨hF9.kept, hF9.sz, hF9.cv, hF9.fv, hF9.cd, hF9.fd, hF9.own, fun D' hD' => by
          rcases List.mem_cons.1 hD' with rfl | h
          · exact ⟨Nat.le_trans HST1.out.sz HPD.out, heap_set_deferred HDEF.out _ _⟩
          · exact hF9.ds D' h⟩
      · refine List.nodup_cons.2 ⟨fun h => ?_, HND.out⟩
        have := (Array.getElem?_eq_some_iff.1 (HST1.out.ds D h).2).1
        have := HPD.out
        omega
      · exact (HX2.out.keptBy (Kept.refl _).drew).setOther HCB.out (Nat.le_of_lt HB.out.2.1) _
      · have := HLT.out
        simp [intOf]
        omega
    case stop =>
      rintro D cd pre Y hD hpre ⟨rfl, pre', y, rfl, hxy, hst2, hx2, hcx, hlt2⟩ hdef
      have hsum : rankSum W (setS (l.take k)) n0 x = foldC W (setS (l.take k)) n0 (pre'.map Subtype.val) := by
        obtain ⟨r, hr⟩ := hpre
        refine rankSum_stop (Nat.le_of_lt HXN.out) (A := pre'.map Subtype.val) (y := y.val) (R := r) (hr.symm.trans (by simp)) (fun p hp => ?_) hxy
        obtain ⟨q, hq, rfl⟩ := List.mem_map.1 hp
        exact hlt2 q hq
      clear hpre hlt2 hxy
      generalize foldC W (setS (l.take k)) n0 (pre'.map Subtype.val) = n1 at *
      have HSUM := Lib.hid hsum
      have HST2 := Lib.hid hst2
      have HX2 := Lib.hid hx2
      have HDEF := Lib.hid hdef
      have HPD := Lib.hid hD
      have hcd := hst2.cd
      have hfd := hst2.fd
      have hx32 : x < 32 := by have := HXN.out; omega
      have hxi : (x : Int) < 32 := by omega
      clear hsum hst2 hx2 hdef hD
      go_wp2
      refine region_tail 4 (by kernel_rfl) (by kernel_rfl) ?_
      simp only [List.take_succ_cons, List.take_zero, List.drop_succ_cons, List.drop_zero]
      repeat still_step
      still_call Calls_still (one_any x _ hx32)
      repeat still_step
      refine wpStill_nil ?_
      go_wp2
      have hF9 := (((HST2.out.keptBy (Kept.refl _).drew).setDone (by have := HB.out; omega) HB.out.2.2 (by have := HB.out; omega) (setS (l.take k) ||| oneS x)))
      refine ⟨⟨k + 1, D :: Ds, _, _, _, _, _, _, _, _, _, _, _, _, _, _, _, _, _, _, _, _, _, _, _, _, _, _, _, _, _, _, _, _, _, _, _, _, _, _, _, _, _, _, _, _, _, _, _, rfl, HLT.out, ?_, ?_, ?_⟩, ?_⟩
      · rw [HTK.out, HNEXT.out, HSUM.out]
        exact ⟨hF9.kept, hF9.sz, hF9.cv, hF9.fv, hF9.cd, hF9.fd, hF9.own, fun D' hD' => by
          rcases List.mem_cons.1 hD' with rfl | h
          · exact ⟨Nat.le_trans HST1.out.sz HPD.out, heap_set_deferred HDEF.out _ _⟩
          · exact hF9.ds D' h⟩
      · refine List.nodup_cons.2 ⟨fun h => ?_, HND.out⟩
        have := (Array.getElem?_eq_some_iff.1 (HST1.out.ds D h).2).1
        have := HPD.out
        omega
      · exact (HX2.out.keptBy (Kept.refl _).drew).setOther HCB.out (Nat.le_of_lt HB.out.2.1) _
      · have := HLT.out
        simp [intOf]
        omega
    case body =>
      rintro lb pre p Y ⟨hst, hx, hcx, hpl⟩ hstat
      have HS := Lib.hid hst
      have HXY := Lib.hid hx
      have HT := Lib.hid hstat
      have HCX := Lib.hid hcx
      have HPL := Lib.hid hpl
      have hp32 : p.val < 32 := by have := (mem_readyL.1 p.2).1; omega
      have hbb := HB.out
      have hne8 : some c8 ≠ some mb := fun e => HCB.out.ne (Option.some.inj e)
      have hnen : some bn ≠ some mb := fun e => by have := Option.some.inj e; have := HCB.out.hi; omega
      have hned : some bd ≠ some mb := fun e => by have := Option.some.inj e; have := HCB.out.hi; omega
      clear hst hx hcx hpl hstat hbb
      have hcxb := HCX.out
      by_cases hpx : x ≤ p.val
      · have HPX := Lib.hid hpx
        have e1 : decide (x ≤ p.val) = true := decide_eq_true hpx
        clear hpx hne8 hnen hned
        gi_wp2
        exact ⟨KeepsFrom.refl _ _, rfl, pre, p, rfl, HPX.out, HS.out, HXY.out, HCX.out, HPL.out⟩
      · have e1 : decide (x ≤ p.val) = false := decide_eq_false hpx
        have HPX : Hid (p.val < x) := Lib.hid (by omega)
        clear hpx
        gi_wp2_with fail
        refine regionIn_class (fun Z => Y.grownBy Z (some mb) ∧ Memo kb wb cb mb b W Z) 8 (by kernel_rfl) (by kernel_rfl) (by kernel_rfl) ⟨⟨rfl, rfl, rfl, Nat.le_refl _, fun _ _ _ => rfl⟩, HXY.out.memo.keptBy (Kept.refl Y).drew⟩ ?_
        simp only [List.take_succ_cons, List.take_zero, List.drop_succ_cons, List.drop_zero]
        refine wpQuiet_yield (.int .i64 (foldC W (setS (l.take k)) n0 (pre.map Subtype.val))) (by rfl) (fun Z hZ => ?_) ?_
        · have hc := hZ.1.cell (a := ⟨bn, 0, none⟩) HS.out.cv hnen
          go_simp
        simp only [Act.put, List.setIfInBounds_toArray, List.set_cons_zero, List.set_cons_succ]
        refine wpQuiet_yield (.func (.func 145) #[] #[.pointer (some ⟨kb, 0, none⟩), .pointer (some ⟨wb, 0, none⟩), .pointer (some ⟨cb, 0, none⟩)]) (by rfl) (fun Z hZ => ?_) ?_
        · have hc := hZ.1.cell (a := ⟨c8, 0, none⟩) HXY.out.fn hne8
          unfold closureV at hc
          go_simp
        simp only [Act.put, List.setIfInBounds_toArray, List.set_cons_zero, List.set_cons_succ]
        refine wpQuiet_yield (.int .u32 (sI (setS (l.take k)))) (by rfl) (fun Z hZ => ?_) ?_
        · have hc := hZ.1.cell (a := ⟨bd, 0, none⟩) HS.out.cd hned
          go_simp
        simp only [Act.put, List.setIfInBounds_toArray, List.set_cons_zero, List.set_cons_succ]
        refine wpQuiet_yield (.int .i64 p.val) (by rfl) (fun Z hZ => ?_) ?_
        · go_simp
        simp only [Act.put, List.setIfInBounds_toArray, List.set_cons_zero, List.set_cons_succ]
        refine wpQuiet_yield (.int .u32 (sI (oneS p.val))) (by rfl) (fun Z hZ => ?_) ?_
        · go_simp
          exact (one_any p.val Z hp32).mono fun e Z' h => ⟨h.1, h.2 ▸ hZ⟩
        simp only [Act.put, List.setIfInBounds_toArray, List.set_cons_zero, List.set_cons_succ]
        refine wpQuiet_yield (.int .u32 (sI (setS (l.take k) ||| oneS p.val))) (by rfl) (fun Z hZ => ?_) ?_
        · go_simp
        simp only [Act.put, List.setIfInBounds_toArray, List.set_cons_zero, List.set_cons_succ]
        refine wpQuiet_yield (.int .i64 (cnt W (setS (l.take k) ||| oneS p.val))) (by rfl) (fun Z hZ => ?_) ?_
        · go_simp
          exact (count_any kb wb cb mb b W (by omega) _ _ Z (Nat.lt_succ_self _) hZ.2).mono fun e Z' h => ⟨h.1, hZ.1.trans h.2.1, h.2.2⟩
        simp only [Act.put, List.setIfInBounds_toArray, List.set_cons_zero, List.set_cons_succ]
        refine wpQuiet_yield (.int .i64 (wrap64 (foldC W (setS (l.take k)) n0 (pre.map Subtype.val) + cnt W (setS (l.take k) ||| oneS p.val)))) (by rfl) (fun Z hZ => ?_) ?_
        · go_simp
          exact shl_i64 _
        simp only [Act.put, List.setIfInBounds_toArray, List.set_cons_zero, List.set_cons_succ]
        refine wpQuiet_nil ?_
        rintro Z ⟨hz1, hz2⟩
        have HSZ := Lib.hid (HS.out.turn hz1 HXY.out.memo.isMap HCB.out.lo (by have := HB.out; have := HCB.out.hi; omega))
        have HXZ := Lib.hid (HXY.out.turn HCB.out hz1 hz2)
        have HTZ : Hid (Stat c1 c2 b W (setS (l.take k)) Z) := HT.out.grownNe hz1 (fun e => by have := Option.some.inj e; have := HC.out; omega) (fun e => by have := Option.some.inj e; have := HC.out; omega) (fun e => HXY.out.memo.ne.2.2.2 (Option.some.inj e))
        have HKY : Hid (KeepsFrom X1.heap.size Y Z) := KeepsFrom.of_grownBy hz1 (fun r e => by cases e; have := HBX.out; have := HXB.out; have := HB.out; have := HCB.out.hi; omega)
        have HCXZ := Lib.hid (hz1.cell HCX.out (fun e => by have h9 : xb = mb := Option.some.inj e; have := HXB.out; have := HB.out; have := HCB.out.hi; omega))
        clear hz1 hz2
        have hcn := HSZ.out.cv
        have hfn := HSZ.out.fv
        go_wp2
        unfold onlyN
        gi_wp2
        refine ⟨HKY.out.trans ((KeepsOthers.setCell _ _ _).from _), HTZ.out.setOther (by have := HC.out; omega) (by have := HC.out; omega) (by have := HCB.out.hi; omega) _, ?_, HXZ.out.setOther HCB.out (Nat.le_refl _) _, cell_set_block HCXZ.out (by have := HXB.out; have := HB.out; omega), fun q hq => ?_⟩
        · rw [List.map_append]
          show FSt _ _ _ _ _ (.int .i64 (foldC W (setS (l.take k)) n0 (pre.map Subtype.val ++ [p.val]))) _ _ _ _
          rw [foldC_snoc]
          exact HSZ.out.setOut HB.out.1 (by have := HB.out; omega) (by have := HB.out; omega) _
        · rcases List.mem_append.1 hq with h | h
          · exact HPL.out q h
          · simp at h; subst h; exact HPX.out
  · obtain rfl : k = l.length := by omega
    clear hlt hk
    have hcn := HST.out.cv
    go_wp2
    refine leaves_marks (B := base) Ds _ (fun D hD => HST.out.ds D hD) HND.out (fun w' hs => ⟨_, results_tmp2 rfl _ _ _, ?_⟩)
    rw [← HX.out.1, ← HX.out.2]
    exact ⟨rfl, hs.kept HST.out.kept (by have := HB.out; omega)⟩
end Go.Proofs.Yteljjkghjbofnaa
