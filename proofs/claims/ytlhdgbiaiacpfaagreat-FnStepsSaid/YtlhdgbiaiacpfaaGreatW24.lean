/- The law on steps: the walk. -/
import Derived.Test.YtlhdgbiaiacpfaaGreatN20
import Derived.Deep.LoopGhost
namespace Go.Proofs.YtlhdgbiaiacpfaaGreat
open Go.RowKit

theorem b10Long_no (A A' : Option Addr) (n c n' c' : Nat) (w : World) (hn : n ≤ 1048576) (hn' : n' ≤ 1048576) :
    Calls Tryz.prog 5 #[.slice A n c, .slice A' n' c'] w fun e w' => e = .returned (.bool false) ∧ w = w' := by
  have h := laws_b10Long A A' n c n' c' w (by omega) (by omega)
  have e : (decide ((1048576 : Int) < n) || decide ((1048576 : Int) < n')) = false := by simp; omega
  rwa [e] at h
theorem b10Long_yes (A A' : Option Addr) (n c n' c' : Nat) (w : World) (hn : n ≤ 9223372036854775807) (hn' : n' ≤ 9223372036854775807) (h1 : 1048576 < n ∨ 1048576 < n') :
    Calls Tryz.prog 5 #[.slice A n c, .slice A' n' c'] w fun e w' => e = .returned (.bool true) ∧ w = w' := by
  have h := laws_b10Long A A' n c n' c' w hn hn'
  have e : (decide ((1048576 : Int) < n) || decide ((1048576 : Int) < n')) = true := by simp; omega
  rwa [e] at h
set_option maxRecDepth 100000 in
theorem steps_long (A A' : Option Addr) (n c n' c' : Nat) (w : World) (hn : n ≤ 9223372036854775807) (hn' : n' ≤ 9223372036854775807) (h1 : 1048576 < n ∨ 1048576 < n') :
    Calls Tryz.prog 3 #[.slice A n c, .slice A' n' c'] w fun e w' => e = .returned (.bool true) ∧ Below w.heap.size w w' := by
  have Z := Lib.hid (fun W => b10Long_yes A A' n c n' c' W hn hn' h1)
  clear hn hn' h1
  go_enter Tryz.func3, Tryz.ntmps3
  go_wp2_with (go_at_call 5; (with_reducible refine (Z.out _).mono ?_); rintro e w' ⟨rfl, rfl⟩)
  go_ret
  exact ⟨rfl, Below.refl _ _⟩
theorem spec_B10Roots' (A : Option Addr) (len cap k : Nat) (w : World) (hb : Bts w w.heap.size A len) (hl : len ≤ 1048576) (hk : k < 4) :
    Calls Tryz.prog 7 #[.slice A len cap, .int .i64 (1 + (k : Int))] w fun e w' => ∃ rs : List C, rs.length = k + 1 ∧ Drawn rs ∧ GivesC rs w e w' := by
  have h := spec_B10Roots A len cap (k + 1) w hb hl (by omega)
  rwa [show (((k + 1 : Nat)) : Int) = 1 + (k : Int) by omega] at h
/-- What lies in memory while the law runs: the box, the terms, the roots. -/
structure StW (w : World) (bp g2 cap2 : Nat) (ys : List C) (g1 : Nat) (rs : List C) (W : World) : Prop where
  c : W.cell? ⟨bp, 0, none⟩ = some (.slice (some ⟨g2, 0, none⟩) ys.length cap2)
  ry : Rd W g2 ys
  rr : Rd W g1 rs
  b : Below w.heap.size w W
theorem StW.step {w : World} {bp g2 cap2 : Nat} {ys : List C} {g1 : Nat} {rs : List C} {W W' : World} (h : StW w bp g2 cap2 ys g1 rs W) (hb : Below W.heap.size W W') : StW w bp g2 cap2 ys g1 rs W' :=
  ⟨kc hb h.c, h.ry.below hb, h.rr.below hb, below_trans h.b hb⟩
theorem StW.drewN {w : World} {bp g2 cap2 : Nat} {ys : List C} {g1 : Nat} {rs : List C} {W : World} (h : StW w bp g2 cap2 ys g1 rs W) (n : Nat) : StW w bp g2 cap2 ys g1 rs (W.drewN n) :=
  ⟨h.c, h.ry, h.rr, below_drewN h.b n⟩
theorem StW.drew {w : World} {bp g2 cap2 : Nat} {ys : List C} {g1 : Nat} {rs : List C} {W : World} (h : StW w bp g2 cap2 ys g1 rs W) : StW w bp g2 cap2 ys g1 rs W.drew :=
  ⟨h.c, h.ry, h.rr, ⟨h.b.os, h.b.tape, h.b.output, h.b.size, h.b.block⟩⟩
theorem cvmk (a b : Nat) : Value.complex .f32 a b = cv (a, b) := rfl
theorem isoff {w : Nat} (h : (FloatKind.f64.format.order w c001 == some .gt) = false) : (FloatKind.f64.format.order w 4576918229304087675 == some .gt) = false := h

set_option maxRecDepth 100000 in
set_option maxHeartbeats 4000000 in
theorem steps_short (A A' : Option Addr) (n c n' c' : Nat) (w : World) (hn : n ≤ 1048576) (hn' : n' ≤ 1048576) (hb : Bts w w.heap.size A n) (hb' : Bts w w.heap.size A' n') :
    Calls Tryz.prog 3 #[.slice A n c, .slice A' n' c'] w fun e w' => e = .returned (.bool true) ∧ Below w.heap.size w w' := by
  have Z := Lib.hid (fun W => b10Long_no A A' n c n' c' W hn hn')
  have HN := Lib.hid hn
  have HN' := Lib.hid hn'
  have HB := Lib.hid hb
  have HB' := Lib.hid hb'
  clear hn hn' hb hb'
  go_enter Tryz.func3, Tryz.ntmps3
  go_upto_region 5 with (first
    | (go_at_call 5; (with_reducible refine (Z.out _).mono ?_); rintro e w' ⟨rfl, rfl⟩)
    | (go_at_call 6; (refine (laws_b10At A' n' c' 0 4 w.heap.size _ HN'.out HB'.out (by omega) (by omega) (by omega) (by omega)).mono ?_); rintro e w' ⟨x, rfl, hx0, hx1, rfl⟩; (obtain ⟨k, rfl⟩ := Int.eq_ofNat_of_zero_le hx0); have hk : k < 4 := by omega)
    | (go_at_call 7; (refine (spec_B10Roots' A n c k _ HB.out HN.out hk).mono ?_); rintro e w1 ⟨rs, hrl, hdr, g1, cap1, rfl, hg1, hr1, hb1, hcap1⟩; have HRL := Lib.hid hrl; clear hrl))
  obtain ⟨ys, bs, HS⟩ := steps_ok hdr (by rw [HRL.out]; omega) (by rw [HRL.out]; omega)
  have hl4 : rs.length ≤ 4 := by rw [HRL.out]; omega
  have hl1 : 1 ≤ rs.length := by rw [HRL.out]; omega
  have S1 := Lib.hid HS.pr
  have S2 := Lib.hid HS.vp
  have S3 := Lib.hid HS.len
  have S4 := Lib.hid HS.fin
  have S5 := Lib.hid HS.miss
  have S6 := Lib.hid HS.root
  have S7 := Lib.hid HS.ends
  have HR1 := Lib.hid hr1
  have HB1 := Lib.hid hb1
  clear HS hdr hr1 hb1 hx0 hx1 hg1
  have Z8 := Lib.hid (fun W hw => spec_PolyOfRoots g1 cap1 rs ys W (by omega) hw S4.out S1.out S2.out)
  go_upto_region 8 with (go_at_call 8; (with_reducible refine (Z8.out _ HR1.out).mono ?_); rintro e w2 ⟨g2, cap2, rfl, hg2, hr2, hb2, hcap2⟩; have HR2 := Lib.hid hr2; have HB2 := Lib.hid hb2; clear hr2 hb2)
  have HS3 : Hid (StW w w2.heap.size g2 cap2 ys g1 rs (w2.alloc (.cells #[.slice (some ⟨g2, 0, none⟩) ys.length cap2] 28))) :=
    Lib.hid ⟨new_cell w2 _ _, HR2.out.alloc _, (HR1.out.below HB2.out).alloc _, below_trans (below_trans HB1.out HB2.out) ((Below.refl _ _).alloc (Nat.le_refl _) _)⟩
  generalize w2.alloc (.cells #[.slice (some ⟨g2, 0, none⟩) ys.length cap2] 28) = w3 at HS3 ⊢
  generalize w2.heap.size = bp at HS3 ⊢
  clear HR1 HB1 HR2 HB2 Z8 hcap1
  obtain ⟨bt, hbt⟩ : ∃ bt, bt = allTo bs rs.length := ⟨_, rfl⟩
  have hy2 : 2 ≤ ys.length := by rw [S3.out]; omega
  have Z9 := Lib.hid (fun W (h : StW w bp g2 cap2 ys g1 rs W) => by have := impl_MissOfRoots g2 cap2 g1 cap1 ys rs bs W h.ry h.rr S2.out hy2 hl1 (by omega) S4.out S5.out; rw [← hbt] at this; exact this)
  have Z10 := Lib.hid (fun W (h : StW w bp g2 cap2 ys g1 rs W) => by have := spec_MissOfRoots g2 cap2 g1 cap1 ys rs bs W h.ry h.rr S2.out hy2 hl1 (by omega) S4.out S5.out; rw [← hbt] at this; exact this)
  have Z11 := Lib.hid (fun W (h : StW w bp g2 cap2 ys g1 rs W) => impl_AreRoots g1 cap1 rs W hl1 (by omega) h.rr S4.out)
  clear hbt
  have c3 := HS3.out.c
  go_upto_region 9 with (go_at_call 9; (with_reducible refine (Z9.out _ HS3.out).mono ?_); rintro e w4 ⟨rfl, hb4⟩; have HS4 := Lib.hid (HS3.out.step hb4); clear hb4)
  have c4 := HS4.out.c
  clear c3
  go_upto_region 10 with (go_at_call 10; (with_reducible refine (Z10.out _ HS4.out).mono ?_); rintro e w5 ⟨rfl, hb5⟩; have HS5 := Lib.hid (HS4.out.step hb5); clear hb5)
  clear c4
  go_cut [80] (fun b wx => b = .bool false ∧ StW w bp g2 cap2 ys g1 rs wx)
  case first =>
    have hw : floatToFloatBits FloatKind.f32 0 FloatKind.f64 = some 0 := by kernel_rfl
    have ho : FloatKind.f64.format.order 0 4562254508917369340 = some .lt := by kernel_rfl
    cases bt
    all_goals
      go_wp2_with (go_at_call 11; (with_reducible refine (Z11.out _ HS5.out).mono ?_); rintro e w6 ⟨rfl, hb6⟩; have HS6 := Lib.hid (HS5.out.step hb6); clear hb6)
      go_meet
      case rel => exact ⟨rfl, HS6.out⟩
  case rest =>
    obtain ⟨rfl, hst⟩ := hcut
    have HS7 := Lib.hid hst
    clear hst
    have hl0 : (0:Int) ≤ rs.length := by omega
    have hl5 : (rs.length:Int) ≤ 4 := by omega
    go_wp2_with fail
    go_loopg [83] rs.length (fun gk i wr => ∃ j : Nat, j ≤ rs.length ∧ gk = rs.length - j ∧ i = .int .i64 j ∧ StW w bp g2 cap2 ys g1 rs wr)
    case atStart => exact ⟨0, Nat.zero_le _, by omega, rfl, HS7.out⟩
    case round =>
      obtain ⟨j, hj, hgk, rfl, hst⟩ := hrel
      have HSA := Lib.hid hst
      have HGK := Lib.hid hgk
      clear hst hgk
      by_cases hlt : j < rs.length
      · obtain ⟨v0, near, ys1, ys2, v, s, t, k1, k2, k3, k4, ⟨q5, st5, k5, k6⟩, ⟨vs, a, ss, b, vt, d, q, hw, k7, k8⟩, ⟨la, lc, lsq, lb, le, lf, ld1, lx, lr, lg, lh, llg, llh, lgg, lq, lrr, lbig, k9, k10⟩⟩ := S6.out j hlt
        obtain ⟨o1, o2, o3, o4, o5, o6, o7⟩ := k2
        obtain ⟨p1, p2, p3, p4, p5, p6, p7⟩ := k6
        obtain ⟨r1, r2, r3, r4, r5, r6, r7⟩ := k8
        obtain ⟨t1, t2, t3, t4, t5, t6, t7⟩ := k10
        have Y1 := Lib.hid (fun W (h : StW w bp g2 cap2 ys g1 rs W) => impl_PolishRoot_root g2 cap2 ys (at_ rs j) v0 W h.ry S2.out hy2 k1)
        have Y2 := Lib.hid (fun W (h : StW w bp g2 cap2 ys g1 rs W) => spec_PolishRoot_root g2 cap2 ys (at_ rs j) v0 W h.ry S2.out hy2 k1)
        have Y3 := Lib.hid (fun W (h : StW w bp g2 cap2 ys g1 rs W) => impl_SlopeOnce_step g2 cap2 ys ys1 near v s q5 st5 W h.ry S2.out hy2 k5)
        have Y4 := Lib.hid (fun W (h : StW w bp g2 cap2 ys g1 rs W) => impl_HalleyOnce g2 cap2 ys ys1 ys2 near v s t vs a ss b vt d q hw W h.ry S2.out hy2 k4 k7)
        have Y5 := Lib.hid (fun W (h : StW w bp g2 cap2 ys g1 rs W) => impl_LaguerreOnce g2 cap2 ys ys1 ys2 near v s t la lc lsq lb le lf ld1 lx lr lg lh llg llh lgg lq lrr lbig W h.ry S2.out hy2 k4 k9)
        have Y6 := Lib.hid (fun W (h : StW w bp g2 cap2 ys g1 rs W) => spec_LaguerreOnce g2 cap2 ys ys1 ys2 near v s t la lc lsq lb le lf ld1 lx lr lg lh llg llh lgg lq lrr lbig W h.ry S2.out hy2 k4 k9)
        have L1 := Lib.hid (fun W => spec_LongOf o1 o2 o5 W)
        have L2 := Lib.hid (fun W => spec_LongOf p1 p2 p5 W)
        have L3 := Lib.hid (fun W => spec_LongOf r1 r2 r5 W)
        have L4 := Lib.hid (fun W => spec_LongOf t1 t2 t5 W)
        have O1 := Lib.hid (And.intro o4 (And.intro o6 (isoff o7)))
        have P1 := Lib.hid (And.intro p4 (And.intro p6 (isoff p7)))
        have Q1 := Lib.hid (And.intro r4 (And.intro r6 (isoff r7)))
        have T1 := Lib.hid (And.intro t4 (And.intro t6 (isoff t7)))
        have K3 := Lib.hid k3
        clear k1 k3 k4 k5 k7 k9 o4 o5 o6 o7 p4 p5 p6 p7 r4 r5 r6 r7 t4 t5 t6 t7
        have hjz : (0:Int) ≤ j := by omega
        have cA := HSA.out.c
        have eA := HSA.out.rr.2 j hlt
        go_upto_region 15 with (fail)
        go_cut [14, 15] (fun a b wx => a = cv (at_ rs j) ∧ b = .bool true ∧ StW w bp g2 cap2 ys g1 rs wx)
        case first =>
          go_region_law (first
            | (go_simp; go_at_call 12; (with_reducible refine (Y1.out _ HSA.out.drew).mono ?_); rintro e wB ⟨rfl, hbB⟩; have HSB := Lib.hid (HSA.out.drew.step hbB); clear hbB))
          all_goals
            go_wp2_with fail
            go_meet
            case rel => exact ⟨rfl, rfl, HSB.out⟩
        case rest =>
          obtain ⟨rfl, rfl, hstb⟩ := hcut
          have HSB := Lib.hid hstb
          clear hstb cA eA
          have cB := HSB.out.c
          have eB := HSB.out.rr.2 j hlt
          go_upto_region 16 with (fail)
          go_cut [16, 17] (fun a b wx => a = cv (at_ rs j) ∧ b = .bool true ∧ StW w bp g2 cap2 ys g1 rs wx)
          case first =>
            go_region_law (first
              | (go_simp; go_at_call 13; (with_reducible refine (Y2.out _ HSB.out.drew).mono ?_); rintro e wC ⟨rfl, hbC⟩; have HSC := Lib.hid (HSB.out.drew.step hbC); clear hbC))
            all_goals
              go_wp2_with fail
              go_meet
              case rel => exact ⟨rfl, rfl, HSC.out⟩
          case rest =>
            obtain ⟨rfl, rfl, hstc⟩ := hcut
            have HSC := Lib.hid hstc
            clear hstc cB eB
            have cC := HSC.out.c
            have eC := HSC.out.rr.2 j hlt
            have k3 := K3.out
            go_upto_region 18 with (fail)
            clear k3
            go_upto_region 19 with (go_at_call 14; (with_reducible refine (Y3.out _ HSC.out).mono ?_); rintro e wD ⟨rfl, hbD⟩; have HSD := Lib.hid (HSC.out.step hbD); clear hbD)
            clear cC eC
            have cD := HSD.out.c
            go_upto_region 20 with (go_at_call 15; (with_reducible refine (Y4.out _ HSD.out).mono ?_); rintro e wE ⟨rfl, hbE⟩; have HSE := Lib.hid (HSD.out.step hbE); clear hbE)
            clear cD
            have cE := HSE.out.c
            go_upto_region 21 with (go_at_call 16; (with_reducible refine (Y5.out _ HSE.out).mono ?_); rintro e wF ⟨rfl, hbF⟩; have HSF := Lib.hid (HSE.out.step hbF); clear hbF)
            clear cE
            have cF := HSF.out.c
            go_upto_region 22 with (go_at_call 17; (with_reducible refine (Y6.out _ HSF.out).mono ?_); rintro e wG ⟨rfl, hbG⟩; have HSG := Lib.hid (HSF.out.step hbG); clear hbG)
            clear cF
            have eG := HSG.out.rr.2 j hlt
            have o4 := O1.out.1
            have o6 := O1.out.2.1
            have o7 := O1.out.2.2
            have p4 := P1.out.1
            have p6 := P1.out.2.1
            have p7 := P1.out.2.2
            have r4 := Q1.out.1
            have r6 := Q1.out.2.1
            have r7 := Q1.out.2.2
            have t4 := T1.out.1
            have t6 := T1.out.2.1
            have t7 := T1.out.2.2
            unfold wid at o6 p6 r6 t6
            go_wp2_with (first
              | (go_at_call 18; (with_reducible refine (L1.out _).mono ?_); rintro e w' ⟨rfl, rfl⟩)
              | (go_at_call 18; (with_reducible refine (L2.out _).mono ?_); rintro e w' ⟨rfl, rfl⟩)
              | (go_at_call 18; (with_reducible refine (L3.out _).mono ?_); rintro e w' ⟨rfl, rfl⟩)
              | (go_at_call 18; (with_reducible refine (L4.out _).mono ?_); rintro e w' ⟨rfl, rfl⟩))
            go_roundg (rs.length - (j + 1))
            case measure => have := HGK.out; omega
            case rel => exact ⟨j + 1, by omega, rfl, by go_num, HSG.out⟩
      · have hjl : j = rs.length := by omega
        subst hjl
        clear HGK hj hlt
        have cA := HSA.out.c
        go_upto_region 25 with (fail)
        have X1 := Lib.hid (fun W (h : Below w.heap.size w W) => laws_b10At A' n' c' 1 9 w.heap.size W HN'.out (HB'.out.below h) (by omega) (by omega) (by omega) (by omega))
        have X2 := Lib.hid (fun W (h : Below w.heap.size w W) => laws_b10At A' n' c' 2 9 w.heap.size W HN'.out (HB'.out.below h) (by omega) (by omega) (by omega) (by omega))
        go_upto_region 26 with (first
          | (go_at_call 6; (with_reducible refine (X1.out _ HSA.out.b).mono ?_); rintro e w' ⟨x, rfl, hx0, hx1, rfl⟩; (obtain ⟨qa, ha, _⟩ := quarter_R hx0 hx1); unfold quarterW div32 at ha)
          | (go_at_call 6; (with_reducible refine (X2.out _ HSA.out.b).mono ?_); rintro e w' ⟨y, rfl, hy0, hy1, rfl⟩; (obtain ⟨qb, hqb, _⟩ := quarter_R hy0 hy1); unfold quarterW div32 at hqb))
        obtain ⟨qa', qb', ha', hb', hend⟩ := S7.out x y hx0 hx1 hy0 hy1
        obtain rfl : qa' = qa := Option.some.inj (ha'.symm.trans ha)
        obtain rfl : qb' = qb := Option.some.inj (hb'.symm.trans hqb)
        obtain ⟨rs', qs, v, d, lv, wl, s, p, l, a, q, b, e1, e2, e3, e4, e5, e6, e7, e8, e9, f1, f2, f3, f4, f5, f6, f7, f8⟩ := hend
        rw [cvmk]
        have hm1 : ys.length - 1 = rs.length := by rw [S3.out]; omega
        rw [hm1] at e1 e2
        have LV := Lib.hid (fun W (h : StW w bp g2 cap2 ys g1 rs W) => by
          have := impl_LeaveRoot g2 cap2 rs.length ys (qa', qb') W rs' qs S3.out hl1 (by omega) h.ry S2.out e7 e5 e1 e3 e4
          rw [← S3.out] at this
          exact this)
        have PV := Lib.hid (fun W (h : StW w bp g2 cap2 ys g1 rs W) => spec_PolyAt g2 cap2 ys (qa', qb') v W h.ry S2.out e7 e6 e8)
        have M1 := Lib.hid (fun W (h : StW w bp g2 cap2 ys g1 rs W) => impl_MissAt g2 cap2 ys (qa', qb') v l lv a q b W h.ry S2.out hy2 e9)
        have M2 := Lib.hid (fun W (h : StW w bp g2 cap2 ys g1 rs W) => spec_MissAt g2 cap2 ys (qa', qb') v l lv a q b W h.ry S2.out hy2 e9)
        have L1 := Lib.hid (fun W => spec_LongOf d 0 f2 W)
        have L2 := Lib.hid (fun W => spec_LongOf v lv f4 W)
        have F1 := Lib.hid f1
        have F3 := Lib.hid f3
        have F5 := Lib.hid f5
        have F6 := Lib.hid f6
        have F7 := Lib.hid f7
        have F8 := Lib.hid f8
        have E2 := Lib.hid e2
        have S4' := S3.out
        clear hx0 hx1 hy0 hy1 ha hqb ha' hb' hm1 e1 e2 e3 e4 e5 e6 e7 e8 e9 f1 f2 f3 f4 f5 f6 f7 f8 S4'
        go_upto_region 27 with (go_at_call 19; (refine (LV.out _ HSA.out).mono ?_); rintro e wH ⟨g5, cap5, rfl, hg5, hr5, hbH, hcap5⟩; have HSH := Lib.hid (HSA.out.step hbH); clear hbH)
        have HSI : Hid (StW w bp g2 cap2 ys g1 rs (wH.alloc (.cells #[.slice (some ⟨g5, 0, none⟩) qs.length cap5] 28))) := Lib.hid (HSH.out.step ((Below.refl _ _).alloc (Nat.le_refl _) _))
        have cI := new_cell wH (.slice (some ⟨g5, 0, none⟩) qs.length cap5) 28
        generalize wH.alloc (.cells #[.slice (some ⟨g5, 0, none⟩) qs.length cap5] 28) = wI at HSI cI ⊢
        clear cA
        have cA := HSI.out.c
        go_upto_region 28 with (go_at_call 20; (with_reducible refine (PV.out _ HSI.out).mono ?_); rintro e wJ ⟨rfl, hbJ⟩; have HSJ := Lib.hid (HSI.out.step hbJ); have cJ := kc hbJ cI; clear hbJ)
        clear cA cI
        have cA := HSJ.out.c
        go_upto_region 29 with (go_at_call 21; (with_reducible refine (M1.out _ HSJ.out).mono ?_); rintro e wK ⟨rfl, hbK⟩; have HSK := Lib.hid (HSJ.out.step hbK); have cK := kc hbK cJ; clear hbK)
        clear cA cJ
        have cA := HSK.out.c
        go_upto_region 30 with (go_at_call 22; (with_reducible refine (M2.out _ HSK.out).mono ?_); rintro e wL ⟨rfl, hbL⟩; have HSL := Lib.hid (HSK.out.step hbL); have cL := kc hbL cK; clear hbL)
        clear cA cK
        have cA := HSL.out.c
        have f1 := F1.out
        have f3 := F3.out
        have f5 := F5.out
        have f6 := F6.out
        have f7 := F7.out
        have f8 := F8.out
        have hlen : ((qs.length : Int) == (ys.length : Int) - 1) = true := by rw [E2.out, S3.out]; simp
        have hy17 : (ys.length : Int) ≤ 17 := by rw [S3.out]; omega
        unfold wid at f3 f5
        unfold add64 at f6
        unfold mul64 at f7
        cases b
        all_goals
          go_wp2_with (first
            | (go_at_call 18; (with_reducible refine (L1.out _).mono ?_); rintro e w' ⟨rfl, rfl⟩)
            | (go_at_call 18; (with_reducible refine (L2.out _).mono ?_); rintro e w' ⟨rfl, rfl⟩))
          go_ret
          exact ⟨rfl, HSL.out.b⟩

/-- The law on steps: whatever the bytes are, it returns true, and what was in memory is as it was. -/
theorem laws_FnSteps (A A' : Option Addr) (n c n' c' : Nat) (w : World) (hn : n ≤ 9223372036854775807) (hn' : n' ≤ 9223372036854775807) (hb : Bts w w.heap.size A n) (hb' : Bts w w.heap.size A' n') :
    Calls Tryz.prog 3 #[.slice A n c, .slice A' n' c'] w fun e w' => e = .returned (.bool true) ∧ Below w.heap.size w w' := by
  by_cases h : 1048576 < n ∨ 1048576 < n'
  · exact steps_long A A' n c n' c' w hn hn' h
  · exact steps_short A A' n c n' c' w (by omega) (by omega) hb hb'
end Go.Proofs.YtlhdgbiaiacpfaaGreat
