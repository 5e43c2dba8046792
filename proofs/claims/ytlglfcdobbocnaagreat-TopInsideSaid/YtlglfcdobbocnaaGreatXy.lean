/- faces.cut: the walk. -/
import Derived.Test.YtlglfcdobbocnaaGreatXx
import Derived.Test.YtlglfcdobbocnaaGreatPb
set_option maxRecDepth 100000
namespace Go.Proofs.YtlglfcdobbocnaaGreat
open Go Go.Proofs Go.RowKit
attribute [local go_sem] Oper.semAt_some
theorem pt_three (x y : Pt) : x = y ∨ x.1 ≠ y.1 ∨ (x.1 = y.1 ∧ x.2 ≠ y.2) := by
  by_cases h1 : x.1 = y.1
  · by_cases h2 : x.2 = y.2
    · exact .inl (Prod.ext h1 h2)
    · exact .inr (.inr ⟨h1, h2⟩)
  · exact .inr (.inl h1)
theorem linC : Lin (fun _ : Pt => True) fun x y => cmpP x y < 0 := by
  refine ⟨fun a b _ _ k => ?_, fun a b c _ _ _ k1 k2 => ?_, fun a b _ _ hn => ?_⟩
  · rw [cmpP_lt] at *
    exact ltP_asymm k
  · rw [cmpP_lt] at *
    exact ltP_trans k1 k2
  · rw [cmpP_lt, cmpP_lt]
    exact ltP_total hn
theorem wp_append_pts {o : Oper} {a : Act} {w : World} {K : Act → World → Prop} {Q : Exit → Act → World → Prop} (hg : o.guard = none) (s x : Operand) (ho : o.op = .call { callee := .builtin .append, args := #[s, x], argTypes := #[22, 22] }) (base : Nat) (v : Value) (l : List Pt) (hown : OwnP w base v l) (hs : a.eval s = v)
    (g off m c : Nat) (ys : List Pt) (hm : ys.length = m) (hx : a.eval x = .slice (some ⟨g, off, none⟩) m c) (hc : ∀ j u, (ys.flatMap pairC)[j]? = some u → w.cell? ⟨g, off + j, none⟩ = some u) (hl : l.length + m < 1099511627776) (hbase : base ≤ w.heap.size)
    (h : ∀ ra rc w', OwnP w' base (.slice ra (l.length + m) rc) (l ++ ys) → w.grownBy w' v.ownBlock → K (a.put o.dst (.slice ra (l.length + m) rc)) w') : Oper.wp Tryz.prog o a w K Q := by
  have h2 := step_many (ops := #[]) (C := True) (Q := Q) Tryz.underlying22 info25 rfl (by omega) (by omega) pairC_len pairC_one hg s x ho base v l hown hs g off m c ys hm hx hc hl hbase fun ra rc w' h1 h2 _ => h ra rc w' h1 h2
  rwa [if_pos (by simp [Region.wanted, hg])] at h2
theorem pt_cells {w : World} {u : Nat} {q : Pt} (h0 : w.cell? ⟨u, 0, none⟩ = some (.int .i64 q.1)) (h1 : w.cell? ⟨u, 1, none⟩ = some (.int .i64 q.2)) : ∀ j v, ([q].flatMap pairC)[j]? = some v → w.cell? ⟨u, 0 + j, none⟩ = some v := fun j v hv => by
  match j, hv with
  | 0, hv => simp [pairC] at hv; subst hv; exact h0
  | 1, hv => simp [pairC] at hv; subst hv; exact h1
  | j + 2, hv => simp [pairC] at hv
theorem dn_self {l : Array Bool} {k : Nat} (h : l.getD k true = false) : dn (l.setIfInBounds k true) k := by
  unfold dn
  rw [Array.getElem?_setIfInBounds, if_pos rfl]
  split
  · rfl
  · rename_i hk
    rw [Array.getD_eq_getD_getElem?, Array.getElem?_eq_none (by omega)] at h
    cases h
theorem PtBox.grown {X Y : World} {g : Nat} {p : Pt} {row : Option Nat} (h : PtBox X g p) (hg : X.grownBy Y row) (hn : some g ≠ row) : PtBox Y g p := ⟨grown_cell hg h.c0 hn, grown_cell hg h.c1 hn⟩
theorem grown_warm {X Y : World} {g : Nat} {row : Option Nat} (h : ∀ o, X.frozen? ⟨g, o, none⟩ = false) (hl : g < X.heap.size) (hg : X.grownBy Y row) (hn : some g ≠ row) (o : Nat) : Y.frozen? ⟨g, o, none⟩ = false :=
  (World.frozen?_of_block (a := ⟨g, o, none⟩) (hg.block g hl hn)).trans (h o)
/-- The pieces of a part. -/
def prtsF (s : Sg) (l : List Pt) (pl ps : Int) : List Prt := (chainS s.1 l).map fun s => ⟨s, pl, ps⟩
/-- Where the region is that makes the stops compact and puts the end behind them. -/
structure Cut10 (z1 w2 : World) (base pb : Nat) (q : Pt) (u6 : Value) (m U : List Pt) (l : Array Bool) (X : World) (x6 x46 x47 x48 x49 x50 x51 : Value) : Prop where
  kept : Kept z1 X
  old : w2.heap.size ≤ X.heap.size
  f0 : dn l 0 → x46 = u6
  f1 : dn l 1 → ¬ dn l 5 → OwnP X base x47 U
  n1 : ¬ dn l 1 → OwnP X base u6 m
  f2 : dn l 2 → x48 = .pointer (some ⟨pb, 2, none⟩)
  f3 : dn l 3 → x49 = ptV q
  f4 : dn l 4 → ¬ dn l 5 → ∃ u, x50 = .slice (some ⟨u, 0, none⟩) 1 1 ∧ w2.heap.size ≤ u ∧ X.cell? ⟨u, 0, none⟩ = some (.int .i64 q.1) ∧ X.cell? ⟨u, 1, none⟩ = some (.int .i64 q.2)
  f5 : dn l 5 → OwnP X base x51 (U ++ [q])
  f6 : dn l 6 → x6 = x51
  d6 : dn l 6 → dn l 0
  d5 : dn l 5 → dn l 1
  g6 : dn l 6 → dn l 5
  e6 : ¬ dn l 6 → x6 = u6
set_option maxHeartbeats 4000000 in
theorem cut_any (p : Prt) (l : List Pt) (ao : Option Addr) (c : Nat) (w : World) (hp : Pairs w ao l) (hok : ∀ x ∈ l, okB x = true) (hs : okS p.s = true) (hl : l.length < 1000) :
    Calls Tryz.prog 19 #[prtV p, .slice ao l.length c] w (MakesR ((cutF p.s l).map fun s => ⟨s, p.line, p.src⟩) w) := by
  have HP := Lib.hid hp
  have HOK := Lib.hid hok
  have HS := Lib.hid hs
  obtain ⟨⟨⟨a1, a2⟩, ⟨b1, b2⟩⟩, pl, ps⟩ := p
  simp only [] at HS ⊢
  obtain ⟨w0, hw0⟩ : ∃ w0, w.alloc (.cells #[.int .i64 a1, .int .i64 a2, .int .i64 b1, .int .i64 b2, .int .i64 pl, .int .i64 ps] 50) = w0 := ⟨_, rfl⟩
  obtain ⟨pb, hpb⟩ : ∃ pb, w.heap.size = pb := ⟨_, rfl⟩
  have hk0 : Kept w w0 := by rw [← hw0]; exact (Kept.refl w).alloc _
  have hz0 : w0.heap.size = pb + 1 := by rw [← hw0, ← hpb]; simp
  have hbx : PrtBox w0 pb ⟨((a1, a2), (b1, b2)), pl, ps⟩ := by rw [← hw0, ← hpb]; exact ⟨by simp [go_sem], by simp [go_sem], by simp [go_sem], by simp [go_sem], by simp [go_sem], by simp [go_sem]⟩
  have HK0 := Lib.hid hk0
  have HBX := Lib.hid hbx
  obtain ⟨q0, q1, q2, q3, q4, q5⟩ := hbx
  simp only [] at q0 q1 q2 q3 q4 q5
  obtain ⟨y1, z1, k1, e1, e2, hg1, hb1, hf1, hk1, hb2, hz1⟩ := new_sg w0 ((a1, a2), (b1, b2))
  obtain rfl : pb + 1 = k1 := by omega
  have HK1 := Lib.hid (hk0.trans hk1)
  have HB1 := Lib.hid (HBX.out.kept hk1)
  have HSG := Lib.hid hb2
  obtain ⟨r0, r1, r2, r3⟩ := hb1
  simp only [] at e2
  clear hp hok hs hk0 hk1 hb2
  go_enter Tryz.func19, Tryz.ntmps19
  go_wp2
  clear e1 e2 hw0 r0 r1 r2 r3 hf1 q0 q1 q2 q3 q4 q5
  obtain ⟨n, hn⟩ : ∃ n, l.length = n := ⟨_, rfl⟩
  have HN := Lib.hid hn
  rw [hn] at hl ⊢
  clear hn
  obtain ⟨sg, hsg⟩ : ∃ sg : Sg, ((a1, a2), (b1, b2)) = sg := ⟨_, rfl⟩
  have HSE := Lib.hid hsg
  clear hsg
  go_loopw [6, 20] (fun v iv wr => ∃ k : Nat, k ≤ n ∧ iv = .int .i64 k ∧ OwnP wr (pb + 1 + 1) v ((l.take k).filter fun x => insideB x sg) ∧ Kept z1 wr) (fun _ iv _ => n - (intOf iv).toNat)
  case atStart => exact ⟨0, Nat.zero_le _, rfl, OwnG.nil _ _ _ _ _, Kept.refl _⟩
  case round =>
    obtain ⟨k, hk, rfl, hov, hkw⟩ := hrel
    have HOV := Lib.hid hov
    have HKW := Lib.hid hkw
    clear hov hkw
    by_cases hlt : k < n
    · have hkl : k < l.length := by rw [HN.out]; exact hlt
      obtain ⟨B, off, rfl, c0, c1⟩ := (HP.out.kept (HK1.out.trans HKW.out)) k hkl
      have HXO := Lib.hid (HOK.out _ (List.getElem_mem hkl))
      have HSUC : Hid ((l.take (k + 1)).filter (fun x => insideB x sg) = (l.take k).filter (fun x => insideB x sg) ++ if insideB l[k] sg then [l[k]] else []) := Lib.hid (by rw [List.take_succ_eq_append_getElem hkl, List.filter_append]; by_cases h : insideB l[k] sg <;> simp [h])
      have HLEN : Hid (((l.take k).filter fun x => insideB x sg).length ≤ n) := Lib.hid (by
        have h1 := List.length_filter_le (fun x => insideB x sg) (l.take k)
        have h2 : (l.take k).length ≤ l.length := by simp; omega
        have := HN.out
        omega)
      generalize l[k] = x at c0 c1 HXO HSUC
      obtain ⟨x1, x2⟩ := x
      simp only [] at c0 c1
      obtain ⟨y2, z2, k2, e3, e4, hg2, hb3, hf3, hk3, hb4, hz3⟩ := new_pt wr (x1, x2)
      have HKZ := Lib.hid (HKW.out.trans hk3)
      have HOZ := Lib.hid (OwnG.kept HOV.out hk3)
      have HB4 := Lib.hid hb4
      obtain ⟨r0, r1⟩ := hb3
      simp only [] at e4
      clear hk3 hb4
      go_upto_region 6 with fail
      clear e3 e4 c0 c1 r0 r1 hf3
      go_cut [38] (fun sv wx => sv = .bool (insideB (x1, x2) sg) ∧ Kept z2 wx)
      case first =>
        obtain ⟨q0, q1, q2, q3, -, -⟩ := HB1.out.kept HKZ.out
        obtain ⟨s0, s1, s2, s3⟩ := HSG.out.kept HKZ.out
        obtain ⟨r0, r1⟩ := HB4.out
        simp only [] at q0 q1 q2 q3 s0 s1 s2 s3 r0 r1
        have hlq := lt_of_cell q0
        have hls := lt_of_cell s0
        have hlr := lt_of_cell r0
        have HON : Hid (¬ (x1, x2) = (a1, a2) → ¬ (x1, x2) = (b1, b2) → OnF (x1, x2) ((a1, a2), (b1, b2)) = insideB (x1, x2) sg) := Lib.hid (fun h1 h2 => by
          rw [← HSE.out]
          unfold OnF insideB
          rw [HXO.out, HS.out]
          simp only [ne_eq, h1, h2, not_false_eq_true, decide_true, Bool.and_true])
        have HEQ : Hid ((x1, x2) = (a1, a2) ∨ (x1, x2) = (b1, b2) → insideB (x1, x2) sg = false) := Lib.hid (fun h => by
          rw [← HSE.out]
          unfold insideB
          rcases h with h | h <;> simp [h])
        rcases pt_three (x1, x2) (a1, a2) with e | e | e
        · simp only [Prod.mk.injEq] at e
          obtain ⟨rfl, rfl⟩ := e
          go_wp2
          go_meet
          exact ⟨by rw [HEQ.out (by simp)], Kept.refl _⟩
        · simp only [ne_eq] at e
          rcases pt_three (x1, x2) (b1, b2) with f | f | f
          · simp only [Prod.mk.injEq] at f
            obtain ⟨rfl, rfl⟩ := f
            go_wp2
            go_meet
            exact ⟨by rw [HEQ.out (by simp)], Kept.refl _⟩
          · simp only [ne_eq] at f
            go_wp2_with fail
            refine (On_any (_, _) ((_, _), (_, _)) _).mono ?_
            rintro e5 wx ⟨rfl, hkx⟩
            have HX := Lib.hid hkx
            rw [HON.out (by simp; omega) (by simp; omega)]
            clear hkx
            go_wp2
            go_meet
            exact ⟨rfl, HX.out⟩
          · simp only [ne_eq] at f
            obtain ⟨f1, f⟩ := f
            subst f1
            go_wp2_with fail
            refine (On_any (_, _) ((_, _), (_, _)) _).mono ?_
            rintro e5 wx ⟨rfl, hkx⟩
            have HX := Lib.hid hkx
            rw [HON.out (by simp; omega) (by simp; omega)]
            clear hkx
            go_wp2
            go_meet
            exact ⟨rfl, HX.out⟩
        · simp only [ne_eq] at e
          obtain ⟨e1, e⟩ := e
          subst e1
          rcases pt_three (x1, x2) (b1, b2) with f | f | f
          · simp only [Prod.mk.injEq] at f
            obtain ⟨rfl, rfl⟩ := f
            go_wp2
            go_meet
            exact ⟨by rw [HEQ.out (by simp)], Kept.refl _⟩
          · simp only [ne_eq] at f
            go_wp2_with fail
            refine (On_any (_, _) ((_, _), (_, _)) _).mono ?_
            rintro e5 wx ⟨rfl, hkx⟩
            have HX := Lib.hid hkx
            rw [HON.out (by simp; omega) (by simp; omega)]
            clear hkx
            go_wp2
            go_meet
            exact ⟨rfl, HX.out⟩
          · simp only [ne_eq] at f
            obtain ⟨f1, f⟩ := f
            subst f1
            go_wp2_with fail
            refine (On_any (_, _) ((_, _), (_, _)) _).mono ?_
            rintro e5 wx ⟨rfl, hkx⟩
            have HX := Lib.hid hkx
            rw [HON.out (by simp; omega) (by simp; omega)]
            clear hkx
            go_wp2
            go_meet
            exact ⟨rfl, HX.out⟩
      case rest =>
        obtain ⟨rfl, hkc⟩ := hcut
        have HKC := Lib.hid (HKZ.out.trans hkc)
        have HOC := Lib.hid (OwnG.kept HOZ.out hkc)
        have HBC := Lib.hid (HB4.out.kept hkc)
        obtain ⟨r0, r1⟩ := HB4.out.kept hkc
        have hlr := lt_of_cell r0
        simp only [] at r0 r1
        clear hkc
        generalize hM : (l.take k).filter (fun x => insideB x sg) = M at *
        have HM := Lib.hid hM
        clear hM
        obtain ⟨bb, hbb⟩ : ∃ bb, insideB (x1, x2) sg = bb := ⟨_, rfl⟩
        rw [hbb] at HSUC ⊢
        have HBZ : Hid (pb + 1 + 1 ≤ wc.heap.size) := Lib.hid (by rw [← hz1]; exact HKC.out.size)
        cases bb
        · go_wp2
          go_roundw
          case rel => exact ⟨k + 1, by omega, by go_num, by rw [HSUC.out]; simpa using HOC.out, HKC.out⟩
          case measure => simp [intOf]; omega
        · go_wp2_with (first | (at_builtin; refine append_pt _ rfl _ _ rfl (pb + 1 + 1) _ _ rfl (OwnG.kept HOC.out ((Kept.refl _).alloc _)) _ (x1, x2) rfl ⟨by simp [go_sem], by simp [go_sem]⟩ (by have := HLEN.out; omega) (by have := HBZ.out; simp; omega) ?_; intro ra rc w6 hown6 hg6 hlies6; have HO6 := Lib.hid hown6; have HG6 : Hid (Kept z1 w6) := Lib.hid (Kept.grown (HKC.out.alloc _) hg6 (fun r e => by rw [hz1]; exact (HOC.out.lt r e).1)); clear hown6 hg6 hlies6) | fail)
          go_roundw
          case rel => exact ⟨k + 1, by omega, by go_num, by rw [HSUC.out]; exact HO6.out, HG6.out⟩
          case measure => simp [intOf]; omega
    · obtain rfl : k = n := by omega
      have htk : l.take k = l := by rw [← HN.out]; exact List.take_length
      rw [htk] at HOV
      have HLEN : Hid ((l.filter fun x => insideB x sg).length ≤ k) := Lib.hid (by
        have h1 := List.length_filter_le (fun x => insideB x sg) l
        have := HN.out
        omega)
      clear htk
      go_wp2_with fail
      refine (sortedP_any u6 (l.filter fun x => insideB x sg) (pb + 1 + 1) 39 #[] (fun _ => True) cmpP wr HOV.out (fun g _ => ⟨fun x y W _ _ _ => comparePoints_any x y W, fun args W => rfl⟩) linC (fun _ _ => trivial) (by have := HLEN.out; omega)).mono ?_
      rintro e w2 ⟨m, rfl, hpm, hsm, hom, hgm⟩
      have HPM := Lib.hid hpm
      have HSM := Lib.hid hsm
      have HOM := Lib.hid hom
      have HGM : Hid (Kept z1 w2) := Lib.hid (Kept.grown HKW.out hgm (fun r e => by rw [hz1]; exact (HOV.out.lt r e).1))
      have HML := Lib.hid hpm.length_eq
      clear hpm hsm hom hgm
      have HBW := Lib.hid (HB1.out.kept HGM.out)
      obtain ⟨U, hU⟩ : ∃ U, uniP (l.filter fun x => insideB x sg) = U := ⟨_, rfl⟩
      have HU := Lib.hid hU
      have HUL : Hid (U.length ≤ m.length) := Lib.hid (by rw [← HU.out, HML.out]; exact uniP_len _)
      clear hU
      go_upto_region 10 with fail
      refine region_inv (fun listed A X => ∃ x6 x46 x47 x48 x49 x50 x51, A = { tmps := #[prtV ⟨((a1, a2), (b1, b2)), pl, ps⟩, .slice ao k c, .pointer (some ⟨pb, 0, none⟩), undef, .slice none 0 0, .pointer (some ⟨pb + 1, 0, none⟩), x6, undef, u8, undef, undef, undef, undef, .pointer (some ⟨pb, 0, none⟩), ptV (a1, a2), .pointer (some ⟨pb, 2, none⟩), ptV (b1, b2), sgV ((a1, a2), (b1, b2)), .slice ao k c, .int .i64 k, .int .i64 k, .bool false, u22, u23, u24, u25, u26, u27, u28, u29, u30, u31, u32, u33, u34, u35, u36, u37, u38, u39, u40, u41, u42, u43, u6, .tuple #[], x46, x47, x48, x49, x50, x51, undef, undef, undef, undef, undef, undef, undef, undef, undef, undef, undef, undef, undef, undef, undef, undef, undef, undef, undef, undef, undef], defers := [] } ∧ Cut10 z1 w2 (pb + 1 + 1) pb (b1, b2) u6 m U listed X x6 x46 x47 x48 x49 x50 x51) (by kernel_rfl) (by kernel_rfl) ?_ ?_ ?_
      · exact ⟨_, _, _, _, _, _, _, rfl, ⟨HGM.out.drew, by simp, fun h => absurd h (dn_rep _ _), fun h => absurd h (dn_rep _ _), fun _ => OwnG.kept HOM.out (Kept.refl _).drew, fun h => absurd h (dn_rep _ _), fun h => absurd h (dn_rep _ _), fun h => absurd h (dn_rep _ _), fun h => absurd h (dn_rep _ _), fun h => absurd h (dn_rep _ _), fun h => absurd h (dn_rep _ _), fun h => absurd h (dn_rep _ _), fun h => absurd h (dn_rep _ _), fun _ => rfl⟩⟩
      · intro listed A X j hs hI hk'
        obtain ⟨hun, o, ho, hall⟩ := mem_ready.1 hk'
        have hj7 : j < 7 := by
          have := (Array.getElem?_eq_some_iff.1 ho).1
          exact this
        obtain ⟨x6, x46, x47, x48, x49, x50, x51, rfl, hI⟩ := hI
        have hnot := dn_not hun
        match j, hj7 with
        | 0, _ =>
          clear hk'
          simp only [List.getElem?_toArray, List.getElem?_cons_zero, Option.some.injEq] at ho
          subst ho
          simp [Region.binds] at hall
          unfold wpOp
          simp only [List.getElem?_toArray, List.getElem?_cons_zero]
          rw [if_pos (by rfl)]
          refine .inl ?_
          obtain rfl := hI.e6 (fun k => hnot (hI.d6 k))
          have HI := Lib.hid hI
          go_simp
          have hI := HI.out
          refine ⟨_, _, _, _, _, _, _, ⟨rfl, rfl, rfl, rfl, rfl, rfl, rfl⟩, ?_⟩
          exact ⟨hI.kept, hI.old, fun _ => rfl, fun hd hn => hI.f1 ((dn_set hd).resolve_left (by decide)) (fun k => hn (dn_mono k)), fun hn => hI.n1 (fun k => hn (dn_mono k)), dn_old hI.f2 (by decide), dn_old hI.f3 (by decide), fun hd hn => hI.f4 ((dn_set hd).resolve_left (by decide)) (fun k => hn (dn_mono k)), dn_old hI.f5 (by decide), dn_old hI.f6 (by decide), fun hd => dn_mono (hI.d6 ((dn_set hd).resolve_left (by decide))), fun hd => dn_mono (hI.d5 ((dn_set hd).resolve_left (by decide))), fun hd => dn_mono (hI.g6 ((dn_set hd).resolve_left (by decide))), fun hn => hI.e6 (fun k => hn (dn_mono k))⟩
        | 1, _ =>
          clear hk'
          simp only [List.getElem?_toArray, List.getElem?_cons_zero, List.getElem?_cons_succ, Option.some.injEq] at ho
          subst ho
          simp [Region.binds] at hall
          unfold wpOp
          simp only [List.getElem?_toArray, List.getElem?_cons_zero, List.getElem?_cons_succ]
          rw [if_pos (by rfl)]
          refine .inl ?_
          obtain rfl := hI.f0 hall
          have HI := Lib.hid hI
          have HNOT := Lib.hid hnot
          have HUN := Lib.hid (dn_self hun)
          go_simp
          refine (Compact_srt _ (l.filter fun x => insideB x sg) m (pb + 1 + 1) X (HI.out.n1 HNOT.out) HPM.out HSM.out (by have := HML.out; have := HLEN.out; omega)).mono ?_
          rintro e Y ⟨v', rfl, ho', hg'⟩
          have hI := HI.out
          have hlt := fun r e => (HOM.out.lt r e)
          refine ⟨_, _, _, _, _, _, _, ⟨rfl, rfl, rfl, rfl, rfl, rfl, rfl⟩, ?_⟩
          refine ⟨hI.kept.grown hg' (fun r e => by rw [hz1]; exact (hlt r e).1), Nat.le_trans hI.old hg'.size, dn_old hI.f0 (by decide), fun _ _ => by rw [← HU.out]; exact ho', fun hn => absurd HUN.out hn, dn_old hI.f2 (by decide), dn_old hI.f3 (by decide), fun hd hn => ?_, fun hd => absurd (hI.d5 ((dn_set hd).resolve_left (by decide))) HNOT.out, dn_old hI.f6 (by decide), fun hd => dn_mono (hI.d6 ((dn_set hd).resolve_left (by decide))), fun _ => HUN.out, fun hd => dn_mono (hI.g6 ((dn_set hd).resolve_left (by decide))), fun hn => hI.e6 (fun k => hn (dn_mono k))⟩
          obtain ⟨u, e1, e2, e3, e4⟩ := hI.f4 ((dn_set hd).resolve_left (by decide)) (fun k => hn (dn_mono k))
          have hne : some u ≠ Value.ownBlock _ := fun e => by have := (hlt u e.symm).2; omega
          exact ⟨u, e1, e2, grown_cell hg' e3 hne, grown_cell hg' e4 hne⟩
        | 2, _ =>
          clear hk'
          simp only [List.getElem?_toArray, List.getElem?_cons_zero, List.getElem?_cons_succ, Option.some.injEq] at ho
          subst ho
          simp [Region.binds] at hall
          unfold wpOp
          simp only [List.getElem?_toArray, List.getElem?_cons_zero, List.getElem?_cons_succ]
          rw [if_pos (by rfl)]
          refine .inl ?_
          have HI := Lib.hid hI
          go_simp
          have hI := HI.out
          refine ⟨_, _, _, _, _, _, _, ⟨rfl, rfl, rfl, rfl, rfl, rfl, rfl⟩, ?_⟩
          exact ⟨hI.kept, hI.old, dn_old hI.f0 (by decide), fun hd hn => hI.f1 ((dn_set hd).resolve_left (by decide)) (fun k => hn (dn_mono k)), fun hn => hI.n1 (fun k => hn (dn_mono k)), fun _ => rfl, dn_old hI.f3 (by decide), fun hd hn => hI.f4 ((dn_set hd).resolve_left (by decide)) (fun k => hn (dn_mono k)), dn_old hI.f5 (by decide), dn_old hI.f6 (by decide), fun hd => dn_mono (hI.d6 ((dn_set hd).resolve_left (by decide))), fun hd => dn_mono (hI.d5 ((dn_set hd).resolve_left (by decide))), fun hd => dn_mono (hI.g6 ((dn_set hd).resolve_left (by decide))), fun hn => hI.e6 (fun k => hn (dn_mono k))⟩
        | 3, _ =>
          clear hk'
          simp only [List.getElem?_toArray, List.getElem?_cons_zero, List.getElem?_cons_succ, Option.some.injEq] at ho
          subst ho
          simp [Region.binds] at hall
          unfold wpOp
          simp only [List.getElem?_toArray, List.getElem?_cons_zero, List.getElem?_cons_succ]
          rw [if_pos (by rfl)]
          refine .inl ?_
          obtain rfl := hI.f2 hall
          have HI := Lib.hid hI
          obtain ⟨-, -, r2, r3, -, -⟩ := HB1.out.kept hI.kept
          have rb := lt_of_cell r2
          simp only [] at r2 r3
          go_simp
          have hI := HI.out
          refine ⟨_, _, _, _, _, _, _, ⟨rfl, rfl, rfl, rfl, rfl, rfl, rfl⟩, ?_⟩
          exact ⟨hI.kept, hI.old, dn_old hI.f0 (by decide), fun hd hn => hI.f1 ((dn_set hd).resolve_left (by decide)) (fun k => hn (dn_mono k)), fun hn => hI.n1 (fun k => hn (dn_mono k)), dn_old hI.f2 (by decide), fun _ => rfl, fun hd hn => hI.f4 ((dn_set hd).resolve_left (by decide)) (fun k => hn (dn_mono k)), dn_old hI.f5 (by decide), dn_old hI.f6 (by decide), fun hd => dn_mono (hI.d6 ((dn_set hd).resolve_left (by decide))), fun hd => dn_mono (hI.d5 ((dn_set hd).resolve_left (by decide))), fun hd => dn_mono (hI.g6 ((dn_set hd).resolve_left (by decide))), fun hn => hI.e6 (fun k => hn (dn_mono k))⟩
        | 4, _ =>
          clear hk'
          simp only [List.getElem?_toArray, List.getElem?_cons_zero, List.getElem?_cons_succ, Option.some.injEq] at ho
          subst ho
          simp [Region.binds] at hall
          unfold wpOp
          simp only [List.getElem?_toArray, List.getElem?_cons_zero, List.getElem?_cons_succ]
          rw [if_pos (by rfl)]
          refine .inl ?_
          obtain rfl := hI.f3 hall
          have HI := Lib.hid hI
          go_simp
          have hI := HI.out
          have hk1 : Kept X (X.alloc (.cells #[.int .i64 b1, .int .i64 b2] 25)) := (Kept.refl X).alloc _
          refine ⟨_, _, _, _, _, _, _, ⟨rfl, rfl, rfl, rfl, rfl, rfl, rfl⟩, ?_⟩
          exact ⟨hI.kept.trans hk1, Nat.le_trans hI.old hk1.size, dn_old hI.f0 (by decide), fun hd hn => OwnG.kept (hI.f1 ((dn_set hd).resolve_left (by decide)) (fun k => hn (dn_mono k))) hk1, fun hn => OwnG.kept (hI.n1 (fun k => hn (dn_mono k))) hk1, dn_old hI.f2 (by decide), dn_old hI.f3 (by decide), fun _ _ => ⟨X.heap.size, rfl, hI.old, by simp [go_sem], by simp [go_sem]⟩, fun hd => OwnG.kept (hI.f5 ((dn_set hd).resolve_left (by decide))) hk1, dn_old hI.f6 (by decide), fun hd => dn_mono (hI.d6 ((dn_set hd).resolve_left (by decide))), fun hd => dn_mono (hI.d5 ((dn_set hd).resolve_left (by decide))), fun hd => dn_mono (hI.g6 ((dn_set hd).resolve_left (by decide))), fun hn => hI.e6 (fun k => hn (dn_mono k))⟩
        | 5, _ =>
          clear hk'
          simp only [List.getElem?_toArray, List.getElem?_cons_zero, List.getElem?_cons_succ, Option.some.injEq] at ho
          subst ho
          simp [Region.binds] at hall
          unfold wpOp
          simp only [List.getElem?_toArray, List.getElem?_cons_zero, List.getElem?_cons_succ]
          rw [if_pos (by rfl)]
          refine .inl ?_
          have hf1 := hI.f1 hall.1 hnot
          obtain ⟨u, rfl, hu, e3, e4⟩ := hI.f4 hall.2.1 hnot
          have HUN := dn_self hun
          refine wp_append_pts rfl _ _ rfl (pb + 1 + 1) x47 U hf1 rfl u 0 1 1 [(b1, b2)] rfl rfl (pt_cells e3 e4) (by have := HUL.out; have := HML.out; have := HLEN.out; omega) (by have := HOM.out; have h1 := hI.kept.size; rw [← hz1]; exact h1) ?_
          intro ra rc Y hown hgr
          simp only [Act.put, List.setIfInBounds_toArray, List.set_cons_zero, List.set_cons_succ]
          refine ⟨_, _, _, _, _, _, _, rfl, ?_⟩
          exact ⟨hI.kept.grown hgr (fun r e => by rw [hz1]; exact (hf1.lt r e).1), Nat.le_trans hI.old hgr.size, dn_old hI.f0 (by decide), fun _ hn => absurd HUN hn, fun hn => absurd (dn_mono hall.1) hn, dn_old hI.f2 (by decide), dn_old hI.f3 (by decide), fun _ hn => absurd HUN hn, fun _ => hown, fun hd => absurd (hI.g6 ((dn_set hd).resolve_left (by decide))) hnot, fun hd => dn_mono (hI.d6 ((dn_set hd).resolve_left (by decide))), fun _ => dn_mono hall.1, fun hd => dn_mono (hI.g6 ((dn_set hd).resolve_left (by decide))), fun hn => hI.e6 (fun k => hn (dn_mono k))⟩
        | 6, _ =>
          clear hk'
          simp only [List.getElem?_toArray, List.getElem?_cons_zero, List.getElem?_cons_succ, Option.some.injEq] at ho
          subst ho
          simp [Region.binds] at hall
          unfold wpOp
          simp only [List.getElem?_toArray, List.getElem?_cons_zero, List.getElem?_cons_succ]
          rw [if_pos (by rfl)]
          refine .inl ?_
          have HI := Lib.hid hI
          go_simp
          have hI := HI.out
          refine ⟨_, _, _, _, _, _, _, ⟨rfl, rfl, rfl, rfl, rfl, rfl, rfl⟩, ?_⟩
          exact ⟨hI.kept, hI.old, dn_old hI.f0 (by decide), fun hd hn => hI.f1 ((dn_set hd).resolve_left (by decide)) (fun k => hn (dn_mono k)), fun hn => hI.n1 (fun k => hn (dn_mono k)), dn_old hI.f2 (by decide), dn_old hI.f3 (by decide), fun hd hn => hI.f4 ((dn_set hd).resolve_left (by decide)) (fun k => hn (dn_mono k)), dn_old hI.f5 (by decide), fun _ => rfl, fun _ => dn_mono hall.2.1, fun hd => dn_mono (hI.d5 ((dn_set hd).resolve_left (by decide))), fun _ => dn_mono hall.1, fun hn => absurd (dn_self hun) hn⟩
      · intro listed A X hs hd hI
        obtain ⟨x6, x46, x47, x48, x49, x50, x51, rfl, hI⟩ := hI
        have hdn : ∀ k, k < 7 → dn listed k := fun k hk => by
          have := hd k hk
          rw [Array.getD_eq_getD_getElem?] at this
          unfold dn
          cases e : listed[k]? with
          | none =>
            rw [Array.getElem?_eq_none_iff] at e
            have e2 : listed.size = 7 := hs
            omega
          | some x => rw [e] at this; exact this
        have ho6 : OwnP X (pb + 1 + 1) x6 (U ++ [(b1, b2)]) := by rw [hI.f6 (hdn 6 (by decide))]; exact hI.f5 (hdn 5 (by decide))
        have HKX := Lib.hid hI.kept
        have HLL : Hid ((U ++ [(b1, b2)]).length < 2000) := Lib.hid (by rw [List.length_append, List.length_singleton]; have := HUL.out; have := HML.out; have := HLEN.out; omega)
        clear hdn hd hI hs
        have HRES : Hid (cutF ((a1, a2), (b1, b2)) l = chainS (a1, a2) (U ++ [(b1, b2)])) := Lib.hid (by unfold cutF stopsC; rw [← HU.out, ← HSE.out])
        obtain ⟨L, hL⟩ : ∃ L, U ++ [(b1, b2)] = L := ⟨_, rfl⟩
        rw [hL] at ho6 HLL HRES
        clear hL
        obtain ⟨ao6, c6, rfl, hp6⟩ := OwnG.pts ho6
        have HP6 := Lib.hid hp6
        clear ho6 hp6
        obtain ⟨N, hN⟩ : ∃ N, L.length = N := ⟨_, rfl⟩
        have HLN := Lib.hid hN
        rw [hN] at HLL ⊢
        have hN2 := HLL.out
        clear hN
        obtain ⟨y9, z9, kb, e9, e10, hg9, hb9, hf9, hk9, hb10, hz9⟩ := new_pt X (a1, a2)
        have HK9 := Lib.hid hk9
        have HB9 := Lib.hid hb10
        have HF9 : Hid (∀ o, z9.frozen? ⟨kb, o, none⟩ = false) := Lib.hid (fun o => by rw [← e10, World.frozen?_setCell, World.frozen?_setCell]; exact hf9 o)
        have HGK : Hid (X.heap.size = kb) := Lib.hid hg9
        obtain ⟨r0, r1⟩ := hb9
        obtain ⟨p0, p1, -, -, -, -⟩ := HB1.out.kept HKX.out
        have rb := lt_of_cell p0
        simp only [] at p0 p1 r0 r1 e10
        clear hk9 hb10
        go_wp2
        clear e9 e10 r0 r1 p0 p1 rb hf9
        go_loopw [9, 56] (fun v iv wr => ∃ k : Nat, k ≤ N ∧ iv = .int .i64 k ∧ OwnR wr (kb + 1) v ((prtsF ((a1, a2), (b1, b2)) L pl ps).take k) ∧ PtBox wr kb (ptAt ((a1, a2) :: L) k) ∧ (∀ o, wr.frozen? ⟨kb, o, none⟩ = false) ∧ kb < wr.heap.size ∧ Kept X wr) (fun _ iv _ => N - (intOf iv).toNat)
        case atStart => exact ⟨0, Nat.zero_le _, rfl, OwnG.nil _ _ _ _ _, HB9.out, HF9.out, by omega, HK9.out⟩
        case round =>
          obtain ⟨k, hk, rfl, hov, hbx, hfx, hks, hkw⟩ := hrel
          have HOV := Lib.hid hov
          have HKW := Lib.hid hkw
          have HBX2 := Lib.hid hbx
          have HFX := Lib.hid hfx
          have HKS := Lib.hid hks
          clear hov hkw hbx hfx hks
          by_cases hlt : k < N
          · have hkl : k < L.length := by rw [HLN.out]; exact hlt
            obtain ⟨B, off, rfl, c0, c1⟩ := (HP6.out.kept HKW.out) k hkl
            have HX1 : Hid (ptAt ((a1, a2) :: L) (k + 1) = L[k]) := Lib.hid (by show ptAt L k = _; exact ptAt_get hkl)
            have HTK : Hid ((prtsF ((a1, a2), (b1, b2)) L pl ps).take (k + 1) = (prtsF ((a1, a2), (b1, b2)) L pl ps).take k ++ [⟨(ptAt ((a1, a2) :: L) k, L[k]), pl, ps⟩]) := Lib.hid (by
              unfold prtsF
              rw [← List.map_take, ← List.map_take, chainS_take _ _ hkl, List.map_append, HX1.out]
              rfl)
            have HTL : Hid (((prtsF ((a1, a2), (b1, b2)) L pl ps).take k).length ≤ N) := Lib.hid (by
              unfold prtsF
              rw [List.length_take, List.length_map, chainS_len]
              have := HLN.out
              omega)
            generalize ptAt ((a1, a2) :: L) k = y at HBX2 HTK
            generalize (prtsF ((a1, a2), (b1, b2)) L pl ps).take k = T at HOV HTK HTL
            generalize L[k] = x at c0 c1 HX1 HTK
            obtain ⟨x1, x2⟩ := x
            obtain ⟨yy1, yy2⟩ := y
            simp only [] at c0 c1
            obtain ⟨y2, z2, k2, e3, e4, hg2, hb3, hf3, hk3, hb4, hz3⟩ := new_pt wr (x1, x2)
            have HKZ := Lib.hid (HKW.out.trans hk3)
            have HKR := Lib.hid hk3
            have HOZ := Lib.hid (OwnG.kept HOV.out hk3)
            have HB4 := Lib.hid hb4
            have HG2 := Lib.hid hg2
            obtain ⟨r0, r1⟩ := hb3
            simp only [] at e4
            clear hk3 hb4
            go_upto_region 16 with fail
            clear e3 e4 c0 c1 r0 r1 hf3
            obtain ⟨s0, s1⟩ := HBX2.out.kept HKR.out
            obtain ⟨-, -, -, -, s4, s5⟩ := HB1.out.kept (HKX.out.trans HKZ.out)
            obtain ⟨t0, t1⟩ := HB4.out
            have sb := lt_of_cell s0
            have sc := lt_of_cell s4
            have sd := lt_of_cell t0
            simp only [] at s0 s1 s4 s5 t0 t1
            go_wp2_with (first | (at_builtin; refine append_prt _ rfl _ _ rfl (kb + 1) _ _ rfl (OwnG.kept HOZ.out ((Kept.refl _).alloc _)) _ ⟨((yy1, yy2), (x1, x2)), pl, ps⟩ rfl ⟨by simp [go_sem, ← hz3], by simp [go_sem, ← hz3], by simp [go_sem, ← hz3], by simp [go_sem, ← hz3], by simp [go_sem, ← hz3], by simp [go_sem, ← hz3]⟩ (by have := HTL.out; omega) (by have := HKR.out.size; have := HKS.out; simp; omega) ?_; intro ra rc w6 hown6 hg6 hlies6; have HO6 := Lib.hid hown6; have HG6 := Lib.hid hg6; have t0 := grown_cell hg6 (((Kept.refl _).alloc _).cell t0) (fun e => by have := (HOV.out.lt _ e.symm).2; have := HG2.out; omega); have t1 := grown_cell hg6 (((Kept.refl _).alloc _).cell t1) (fun e => by have := (HOV.out.lt _ e.symm).2; have := HG2.out; omega); have s0 := grown_cell hg6 (((Kept.refl _).alloc _).cell s0) (fun e => by have := (HOV.out.lt _ e.symm).1; omega); have s1 := grown_cell hg6 (((Kept.refl _).alloc _).cell s1) (fun e => by have := (HOV.out.lt _ e.symm).1; omega); have hfw := grown_warm (fun o => (((HKR.out.alloc _).cells.2 kb o HKS.out).trans (HFX.out o))) (by have := lt_of_cell s0; have := HKR.out.size; have := HKS.out; simp; omega) hg6 (fun e => by have := (HOV.out.lt _ e.symm).1; omega); have f0 := hfw 0; have f1 := hfw 1; have HFW := Lib.hid hfw; have sb := lt_of_cell s0; have sd := lt_of_cell t0; clear hfw hown6 hg6 hlies6) | fail)
            have HN7 : Hid ((Value.slice ra (T.length + 1) rc).ownBlock ≠ some kb) := Lib.hid (fun e => by have := (HO6.out.lt _ e).1; omega)
            have HB7 : Hid (PtBox w6 kb (yy1, yy2)) := Lib.hid ⟨s0, s1⟩
            go_roundw
            case rel =>
              have hkx : Kept X w6 := Kept.grown (HKZ.out.alloc _) HG6.out (fun r e => by have := (HOV.out.lt r e).1; have := HGK.out; omega)
              refine ⟨k + 1, by omega, by go_num, ?_, ?_, ?_, ?_, ?_⟩
              · rw [HTK.out]
                exact OwnG.setNe (a := ⟨kb, 1, none⟩) (OwnG.setNe (a := ⟨kb, 0, none⟩) HO6.out HN7.out _) HN7.out _
              · rw [HX1.out]
                exact HB7.out.put _ _
              · intro o
                rw [World.frozen?_setCell, World.frozen?_setCell]
                exact HFW.out o
              · simpa using sb
              · exact (hkx.setCell (p := ⟨kb, 0, none⟩) (Nat.le_of_eq HGK.out) _).setCell (p := ⟨kb, 1, none⟩) (Nat.le_of_eq HGK.out) _
            case measure => simp [intOf]; omega
          · obtain rfl : k = N := by omega
            have HALL : Hid ((prtsF ((a1, a2), (b1, b2)) L pl ps).take k = (cutF ((a1, a2), (b1, b2)) l).map fun s => ⟨s, pl, ps⟩) := Lib.hid (by
              rw [HRES.out]
              unfold prtsF
              exact List.take_of_length_le (by rw [List.length_map, chainS_len, HLN.out]; exact Nat.le_refl _))
            rw [HALL.out] at HOV
            go_wp2
            go_ret
            exact ⟨_, rfl, OwnG.base' HOV.out (by have := HKX.out.size; have := HK1.out.size; have := HGK.out; omega), HK1.out.trans (HKX.out.trans HKW.out)⟩
end Go.Proofs.YtlglfcdobbocnaaGreat
