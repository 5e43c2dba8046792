/- giornatatop.TopInside: the walk. -/
import Derived.Test.YtlglfcdobbocnaaGreatYf
set_option maxRecDepth 100000
namespace Go.Proofs.YtlglfcdobbocnaaGreat
open Go Go.Proofs Go.RowKit
attribute [local go_sem] Oper.semAt_some
set_option maxHeartbeats 4000000 in
theorem topInside_any (wall : List Pt) (lines : List Sg) (p : Pt) (ao bo : Option Addr) (c d : Nat) (w : World) (hp : Pairs w ao wall) (hs : Sgs w bo lines) :
    Calls Tryz.prog 3 #[.slice ao wall.length c, .slice bo lines.length d, ptV p] w (Gives (.bool true) w) := by
  have HP := Lib.hid hp
  have HS := Lib.hid hs
  obtain ⟨w0, kb, e0, hg0, hz0, hk0, hb0⟩ := alloc_pt w p
  have HK0 := Lib.hid hk0
  have HB0 := Lib.hid hb0
  obtain ⟨n, hnn⟩ : ∃ n, wall.length = n := ⟨_, rfl⟩
  obtain ⟨m, hmm⟩ : ∃ m, lines.length = m := ⟨_, rfl⟩
  have HN := Lib.hid hnn
  have HM := Lib.hid hmm
  rw [hnn]
  rw [hmm]
  clear hp hs hk0 hb0 hnn hmm
  by_cases h1 : 12 < n
  · go_enter Tryz.func3, Tryz.ntmps3
    go_wp2_with fail
    refine (mapped_any w0).mono ?_
    rintro e w1 ⟨rfl, hk1⟩
    have HK1 := Lib.hid (HK0.out.trans hk1)
    clear hk1
    go_wp2
    go_ret
    exact ⟨rfl, HK1.out⟩
  by_cases h2 : 12 < m
  · go_enter Tryz.func3, Tryz.ntmps3
    go_wp2_with fail
    refine (mapped_any w0).mono ?_
    rintro e w1 ⟨rfl, hk1⟩
    have HK1 := Lib.hid (HK0.out.trans hk1)
    clear hk1
    go_wp2
    go_ret
    exact ⟨rfl, HK1.out⟩
  go_enter Tryz.func3, Tryz.ntmps3
  go_wp2_with fail
  have hb := build_any wall lines ao bo c d w0 (HP.out.kept HK0.out) (HS.out.kept HK0.out) (by rw [HN.out]; omega) (by rw [HM.out]; omega)
  rw [HN.out, HM.out] at hb
  refine hb.mono ?_
  rintro e w1 ⟨ap, np, cp, ae, ne, ce, mf, er, rfl, hk1, hiff, hout⟩
  clear hb e0
  obtain ⟨u2, z1, mb, e1, e3, hg1, hb1, hk4, hb2⟩ := new_map w1 (.slice ap np cp) (.slice ae ne ce) mf
  have HK4 := Lib.hid (hk1.trans hk4)
  have HB2 := Lib.hid hb2
  have HOUT := Lib.hid (fun h => Exists.elim (hout h) fun Ed k => show ∃ Ed, MapD z1 ap ae (ptsB wall lines) (edgB wall lines) Ed np ne ∧ MapOk (ptsB wall lines) (edgB wall lines) Ed ap np cp ae ne ce mf z1 from ⟨Ed, k.1.kept hk4, k.2.kept hk4⟩)
  have HIFF := Lib.hid hiff
  have r0 := hb1.c0
  have r1 := hb1.c1
  have r2 := hb1.c2
  have rf0 := hb1.warm 0
  have rf1 := hb1.warm 1
  have rf2 := hb1.warm 2
  have rl := lt_of_cell r0
  clear hk1 hk4 hiff hout hb1 hb2
  go_upto_region 4 with fail
  clear e1 e3 r0 r1 r2 rf0 rf1 rf2 rl
  by_cases her : er = 0
  case neg =>
    have t1 : (er != 0) = true := by simpa using her
    go_wp2_with fail
    refine (mapped_any z1).mono ?_
    rintro e w2 ⟨rfl, hk2⟩
    have HK2 := Lib.hid (HK0.out.trans (HK4.out.trans hk2))
    clear hk2
    go_wp2
    go_ret
    exact ⟨rfl, HK2.out⟩
  subst her
  have hB := HIFF.out.1 rfl
  obtain ⟨Ed, hmd, hmo⟩ := HOUT.out rfl
  have HBU := Lib.hid hB
  have HMD := Lib.hid hmd
  have HMO := Lib.hid hmo
  have hne : (edgB wall lines).length = ne := by rw [← hmd.are.len, hmd.he]
  have HNE := Lib.hid hne
  clear HIFF HOUT hB hmd hmo hne
  have m0 := HB2.out.c0
  have m1 := HB2.out.c1
  have m2 := HB2.out.c2
  have ml := lt_of_cell m0
  obtain ⟨p0, p1⟩ := HB0.out.kept HK4.out
  have pl := lt_of_cell p0
  go_wp2_with fail
  refine (At_any (ptsB wall lines) (edgB wall lines) Ed ap np cp ae ne ce mf p z1 HMO.out).mono ?_
  rintro e z2 ⟨rfl, hk5⟩
  have HK5 := Lib.hid (HK4.out.trans hk5)
  have HM5 := Lib.hid hk5
  clear hk5 m0 m1 m2 ml p0 p1 pl
  obtain ⟨p0, p1⟩ := HB0.out.kept HK5.out
  have pl := lt_of_cell p0
  have hwh := Where_any wall ao c p z2 (HP.out.kept (HK0.out.trans HK5.out)) (by rw [HN.out]; omega)
  rw [HN.out] at hwh
  have HWH := Lib.hid hwh
  clear hwh
  go_wp2_with fail
  refine HWH.out.mono ?_
  rintro e z3 ⟨rfl, hk6⟩
  have HK6 := Lib.hid (HK5.out.trans hk6)
  have HM6 := Lib.hid (HM5.out.trans hk6)
  clear HWH hk6 p0 p1 pl
  obtain ⟨wv, hwv⟩ : ∃ wv, WhereF wall p = wv := ⟨_, rfl⟩
  have HWV := Lib.hid hwv
  rw [hwv]
  clear hwv
  have hpx := HB0.out.kept HK6.out
  have HPX := Lib.hid hpx
  clear hpx
  by_cases hok : okB p = true
  case neg =>
    have hA : atA ne (eS (ptsB wall lines) (edgB wall lines)) (faceE (ptsB wall lines) (edgB wall lines)) p = (0, 1) := by unfold atA; rw [if_neg hok]
    rw [hA]
    have HCK : Hid (ckP p = 1) := Lib.hid (by unfold ckP; rw [if_neg hok])
    have hmb := HB2.out.kept HM6.out
    have m0 := hmb.c0
    have m1 := hmb.c1
    have m2 := hmb.c2
    have ml := lt_of_cell m0
    obtain ⟨p0, p1⟩ := HPX.out
    have pl := lt_of_cell p0
    clear hmb hA
    go_wp2_with fail
    refine (On_map (ptsB wall lines) (edgB wall lines) Ed ap np cp ae ne ce mf p z3 (HMO.out.kept HM6.out)).mono ?_
    rintro e z4 ⟨v, rfl, hov, hk7⟩
    obtain ⟨al, cl, rfl, -, -⟩ := OwnG.ints hov
    have HK7 := Lib.hid (HK6.out.trans hk7)
    have p0 := hk7.cell p0
    have p1 := hk7.cell p1
    clear hov hk7 m0 m1 m2 ml pl
    obtain ⟨ll, hll⟩ : ∃ ll, (onA ne (eS (ptsB wall lines) (edgB wall lines)) p).1.length = ll := ⟨_, rfl⟩
    obtain ⟨oe, hoe⟩ : ∃ oe, (onA ne (eS (ptsB wall lines) (edgB wall lines)) p).2 = oe := ⟨_, rfl⟩
    rw [hll, hoe]
    clear hll hoe
    go_wp2_with fail
    refine (mapped_any z4).mono ?_
    rintro e z5 ⟨rfl, hk8⟩
    have HK8 := Lib.hid (HK7.out.trans hk8)
    have p0 := hk8.cell p0
    have p1 := hk8.cell p1
    have pl := lt_of_cell p0
    clear hk8
    go_wp2_with fail
    refine (checkPoint_any p z5).mono ?_
    rintro e z6 ⟨rfl, hk9⟩
    have HK9 := Lib.hid (HK8.out.trans hk9)
    rw [HCK.out]
    clear hk9 p0 p1 pl
    go_wp2
    go_ret
    exact ⟨rfl, HK0.out.trans HK9.out⟩
  have hmb := HB2.out.kept HM6.out
  have HMB := Lib.hid hmb
  have m0 := hmb.c0
  have m1 := hmb.c1
  have m2 := hmb.c2
  have ml := lt_of_cell m0
  clear hmb
  obtain ⟨P, hP⟩ : ∃ P, ptsB wall lines = P := ⟨_, rfl⟩
  obtain ⟨E, hE⟩ : ∃ E, edgB wall lines = E := ⟨_, rfl⟩
  have HOFF : Hid (onF ne (eS P E) p ≠ [] → wv ≠ 0) := Lib.hid (fun h => by
    have h2 := HBU.out.on_law hok (by rw [HNE.out, hP, hE]; exact h)
    rw [HWV.out] at h2
    exact h2)
  have HATL : Hid (onF ne (eS P E) p = [] → (atF ne (eS P E) (faceE P E) p = 0 ↔ wv = 0)) := Lib.hid (fun h => by
    have h2 := HBU.out.at_law hok (by rw [HNE.out, hP, hE]; exact h)
    rw [HWV.out, HNE.out, hP, hE] at h2
    exact h2)
  have HSD : Hid (Sound P E) := Lib.hid (by rw [← hP, ← hE]; exact HBU.out.sound)
  rw [hP, hE] at HMO HMD ⊢
  rw [hE] at HNE
  clear hP hE
  by_cases hon : onF ne (eS P E) p = []
  case neg =>
    have hA : atA ne (eS P E) (faceE P E) p = (0, 21) := by unfold atA; rw [if_pos hok, if_neg hon]
    rw [hA]
    have hO : onA ne (eS P E) p = (natL (onF ne (eS P E) p), 0) := by unfold onA; rw [if_pos hok]
    have hwv := HOFF.out hon
    have hq : (wv != 0) = true := by simpa using hwv
    obtain ⟨p0, p1⟩ := HPX.out
    have pl := lt_of_cell p0
    clear hA
    go_wp2_with fail
    refine (On_map P E Ed ap np cp ae ne ce mf p z3 (HMO.out.kept HM6.out)).mono ?_
    rintro e z4 ⟨v, rfl, hov, hk7⟩
    obtain ⟨al, cl, rfl, -, -⟩ := OwnG.ints hov
    have HK7 := Lib.hid (HK6.out.trans hk7)
    have p0 := hk7.cell p0
    have p1 := hk7.cell p1
    have HLN : Hid (0 < (onA ne (eS P E) p).1.length) := Lib.hid (by rw [hO]; show 0 < (natL (onF ne (eS P E) p)).length; rw [natL_len]; exact List.length_pos_iff.2 hon)
    have HOE : Hid ((onA ne (eS P E) p).2 = 0) := Lib.hid (by rw [hO])
    clear hov hk7 m0 m1 m2 ml pl hO
    obtain ⟨ll, hll⟩ : ∃ ll, (onA ne (eS P E) p).1.length = ll := ⟨_, rfl⟩
    rw [hll] at HLN
    rw [hll, HOE.out]
    have hl0 := HLN.out
    have hl1 : (0 : Int) < (ll : Int) := by omega
    clear hll
    go_wp2_with fail
    refine (mapped_any z4).mono ?_
    rintro e z5 ⟨rfl, hk8⟩
    have HK8 := Lib.hid (HK7.out.trans hk8)
    clear hk8 p0 p1
    go_wp2
    go_ret
    exact ⟨rfl, HK0.out.trans HK8.out⟩
  have hA : atA ne (eS P E) (faceE P E) p = (atF ne (eS P E) (faceE P E) p, 0) := by unfold atA; rw [if_pos hok, if_pos hon]
  have hiff := HATL.out hon
  have HNO : Hid (∀ i, i < E.length → ¬ OnS p (eS P E i)) := Lib.hid (by rw [HNE.out]; exact onF_nil hon)
  rw [hA]
  obtain ⟨at_, hat⟩ : ∃ a, atF ne (eS P E) (faceE P E) p = a := ⟨_, rfl⟩
  have HAT := Lib.hid hat
  rw [hat] at hiff
  rw [hat]
  clear hA hat
  have HMF : Hid (mf = (numE P E (2 * E.length)).many) := Lib.hid HMO.out.many
  have HENDS : Hid (Ends P E) := Lib.hid ⟨HMO.out.few, fun d hd => HSD.out.laid.tail hd⟩
  obtain ⟨mn, hmn⟩ : ∃ mn, (numE P E (2 * E.length)).many = mn := ⟨_, rfl⟩
  have hmle : mn ≤ 800 := by have h1 := (numG_le (2 * E.length) (nxtF P E) (fun d => areaW P E (orbE P E d)) (2 * E.length)).1; have h2 := HMO.out.few; have h3 : (numE P E (2 * E.length)).many ≤ 2 * E.length := h1; omega
  have HMN := Lib.hid hmn
  rw [hmn] at HMF
  obtain rfl : mf = (mn : Int) := HMF.out
  clear hmn
  obtain ⟨bq, hb1, hb2⟩ : ∃ b, (at_ == 0) = b ∧ (wv == 0) = b := by
    by_cases h : at_ = 0
    · exact ⟨true, by simpa using h, by simpa using hiff.1 h⟩
    · exact ⟨false, by simpa using h, by simpa using fun h2 => h (hiff.2 h2)⟩
  have m2 := HMB.out.c2
  clear m0 m1 ml hiff
  cases bq
  all_goals
    go_wp2
    go_loopw [14] (fun fv wr => ∃ f : Nat, 1 ≤ f ∧ f ≤ mn + 1 ∧ fv = .int .i64 f ∧ Kept z3 wr) (fun fv _ => mn + 1 - (intOf fv).toNat)
    case atStart => exact ⟨1, Nat.le_refl _, by omega, rfl, Kept.refl _⟩
    case round =>
      obtain ⟨f, hf1, hf2, rfl, hkw⟩ := hrel
      have HKW := Lib.hid hkw
      clear hkw
      have hmb := HMB.out.kept HKW.out
      have m0 := hmb.c0
      have m1 := hmb.c1
      have m2 := hmb.c2
      have ml := lt_of_cell m0
      clear hmb
      by_cases hft : f ≤ mn
      · have hft2 : (f : Int) ≤ (mn : Int) := by omega
        have HWL : Hid ((walkedF P E f).length < 1099511627776) := Lib.hid (by
          have h3 := walk_len (P := P) (E := E) (f := f) (HMO.out.face hf1 hft2).lt
          have h4 := HMO.out.few
          unfold walkedF
          rw [List.length_map]
          omega)
        have HLAW : Hid (polyF (walkedF P E f) = 0 → (WhereF (walkedF P E f) p = 2 ↔ at_ = f)) := Lib.hid (fun h => by
          have h2 := HSD.out.walk_law (f := f) hf1 (by rw [HMN.out]; exact hft) hok HNO.out h
          rw [HNE.out, HAT.out] at h2
          exact h2)
        go_wp2_with fail
        refine (walked_any P E Ed ap np cp ae ne ce mn f wr (HMO.out.kept (HM6.out.trans HKW.out)) (HMD.out.kept (HM6.out.trans HKW.out)) HENDS.out hf1 hft2).mono ?_
        rintro e w5 ⟨al, cl, rfl, hpl, hk5⟩
        have HKX := Lib.hid (HKW.out.trans hk5)
        have HPL := Lib.hid hpl
        clear hpl hk5 m0 m1 m2 ml
        have HF := Lib.hid (And.intro hf1 hft)
        have hfw : IntKind.i64.wrap ((f : Int) + 1) = ((f + 1 : Nat) : Int) := by rw [IntWalk.i64_in _ (by omega)]; omega
        generalize walkedF P E f = l at HWL HLAW HPL
        go_wp2_with fail
        refine (checkPoly_any l al cl w5 HPL.out HWL.out).mono ?_
        rintro e w6 ⟨rfl, hk6⟩
        have HKY := Lib.hid (HKX.out.trans hk6)
        have HPL6 := Lib.hid (HPL.out.kept hk6)
        clear hk6
        obtain ⟨pe, hpe⟩ : ∃ pe, polyF l = pe := ⟨_, rfl⟩
        rw [hpe] at HLAW ⊢
        clear hpe
        by_cases hp0 : pe = 0
        · subst hp0
          obtain ⟨p0, p1⟩ := HPX.out.kept HKY.out
          have pl := lt_of_cell p0
          go_wp2_with fail
          refine (Where_any l al cl p w6 HPL6.out HWL.out).mono ?_
          rintro e w7 ⟨rfl, hk7⟩
          have HKZ := Lib.hid (HKY.out.trans hk7)
          clear hk7 p0 p1 pl
          have hl := HLAW.out (by trivial)
          obtain ⟨wl, hwl⟩ : ∃ wl, WhereF l p = wl := ⟨_, rfl⟩
          rw [hwl] at hl ⊢
          clear hwl
          by_cases hw2 : wl = 2
          · have q1 : (wl == 2) = true := by simpa using hw2
            have q2 : ((f : Int) == at_) = true := by have := hl.1 hw2; simp [this]
            clear hl
            go_wp2
            go_roundw
            case rel => exact ⟨f + 1, by omega, by omega, by go_num, HKZ.out⟩
            case measure => simp [intOf]; omega
          · have q1 : (wl == 2) = false := by simpa using hw2
            have q2 : ((f : Int) == at_) = false := by simpa using fun h => hw2 (hl.2 h.symm)
            clear hl
            go_wp2
            go_roundw
            case rel => exact ⟨f + 1, by omega, by omega, by go_num, HKZ.out⟩
            case measure => simp [intOf]; omega
        · have q1 : (pe != 0) = true := by simpa using hp0
          go_wp2
          go_roundw
          case rel => exact ⟨f + 1, by omega, by omega, by go_num, HKY.out⟩
          case measure => simp [intOf]; omega
      · go_wp2_with fail
        refine (mapped_any wr).mono ?_
        rintro e w5 ⟨rfl, hk5⟩
        have HK5' := Lib.hid (HK6.out.trans (HKW.out.trans hk5))
        clear hk5
        go_wp2
        go_ret
        exact ⟨rfl, HK0.out.trans HK5'.out⟩
end Go.Proofs.YtlglfcdobbocnaaGreat
