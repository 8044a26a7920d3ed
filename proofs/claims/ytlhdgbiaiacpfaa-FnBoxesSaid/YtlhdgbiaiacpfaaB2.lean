/- The program's turns of a box. No condition but that the operations are valid and finite. -/
import Derived.Test.YtlhdgbiaiacpfaaB1
namespace Go.Proofs.Ytlhdgbiaiacpfaa
open Go.RowKit

/-- The list of the corners. -/
def corners (low high : C) : List C := [low, (high.1, low.2), high, (low.1, high.2), low]
theorem corners_at (low high : C) {k : Nat} (h : k < 5) : at_ (corners low high) k = cor low high k := by
  obtain rfl | rfl | rfl | rfl | rfl : k = 0 ∨ k = 1 ∨ k = 2 ∨ k = 3 ∨ k = 4 := by omega
  all_goals rfl
theorem corners_rd (w : World) (low high : C) (T : TypeId) : Rd (w.alloc (.cells #[cv low, .complex .f32 high.1 low.2, cv high, .complex .f32 low.1 high.2, cv low] T)) w.heap.size (corners low high) := by
  refine ⟨by simp, fun k hk => ?_⟩
  rw [cell_of_row _ _ _ _ _ _ (heap_alloc_new w _)]
  obtain rfl | rfl | rfl | rfl | rfl : k = 0 ∨ k = 1 ∨ k = 2 ∨ k = 3 ∨ k = 4 := by simp [corners] at hk; omega
  all_goals rfl
/-- What lies in memory while the turns are made: the box of the polynomial, its terms, the corners. -/
structure TF (w : World) (bp g cap : Nat) (ys : List C) (gc : Nat) (cs : List C) (W : World) : Prop where
  c : W.cell? ⟨bp, 0, none⟩ = some (.slice (some ⟨g, 0, none⟩) ys.length cap)
  ry : Rd W g ys
  rc : Rd W gc cs
  b : Below w.heap.size w W
theorem TF.step {w : World} {bp g cap : Nat} {ys : List C} {gc : Nat} {cs : List C} {W W' : World} (h : TF w bp g cap ys gc cs W) (hb : Below W.heap.size W W') : TF w bp g cap ys gc cs W' :=
  ⟨kc hb h.c, h.ry.below hb, h.rc.below hb, below_trans h.b hb⟩
theorem TF.step' {w : World} {bp g cap : Nat} {ys : List C} {gc : Nat} {cs : List C} {W W' : World} {B : Nat} (h : TF w bp g cap ys gc cs W) (hb : Below B W W') (h0 : w.heap.size ≤ B) (h1 : bp < B) (h2 : g < B) (h3 : gc < B) : TF w bp g cap ys gc cs W' :=
  ⟨(hb.cell (p := ⟨bp, 0, none⟩) h1).trans h.c, h.ry.below' hb h2, h.rc.below' hb h3, h.b.trans (hb.mono h0)⟩
theorem TF.drew {w : World} {bp g cap : Nat} {ys : List C} {gc : Nat} {cs : List C} {W : World} (h : TF w bp g cap ys gc cs W) : TF w bp g cap ys gc cs W.drew :=
  ⟨h.c, h.ry, h.rc, ⟨h.b.os, h.b.tape, h.b.output, h.b.size, h.b.block⟩⟩
theorem TF.drewN {w : World} {bp g cap : Nat} {ys : List C} {gc : Nat} {cs : List C} {W : World} (h : TF w bp g cap ys gc cs W) (n : Nat) : TF w bp g cap ys gc cs (W.drewN n) :=
  ⟨h.c, h.ry, h.rc, below_drewN h.b n⟩

set_option maxRecDepth 100000 in
set_option maxHeartbeats 4000000 in
theorem impl_TurnsOfBox (g cap : Nat) (ys : List C) (low high : C) (m s : Nat) (w : World) (hr : Rd w g ys) (hv : VP ys) (h2 : 2 ≤ ys.length) (hm : 4 ≤ m) (hm2 : m ≤ 64) (h : BoxOk ys low high m s) :
    Calls Try.prog 9 #[.agg #[.slice (some ⟨g, 0, none⟩) ys.length cap], cv low, cv high, .int .i64 m] w fun e w' => e = .returned (.tuple #[.float .f32 s, .bool true]) ∧ Below w.heap.size w w' := by
  obtain ⟨d0, d, z, v, t, hbox, hpts, hvls, htrn, hs⟩ := h
  have HV := Lib.hid hv
  have HP := Lib.hid hpts
  have HVL := Lib.hid hvls
  have HT := Lib.hid htrn
  have HS := Lib.hid hs
  have HR := Lib.hid hr
  clear hv hpts hvls htrn hs hr
  go_enter Try.func9, Try.ntmps9
  go_upto_region 3 with (first
    | (go_at_call 24; refine (impl_isRooted g cap ys _ (HR.out.alloc _) HV.out h2).mono ?_; rintro e w1 ⟨rfl, hb1⟩; have hc1 := box_cell hb1; have hr1 := (HR.out.alloc _).below hb1; have hB1 := Lib.hid (below_alloc hb1); clear hb1)
    | (go_at_call 25; refine (impl_isBox low high d0 _ hbox).mono ?_; rintro e w2 ⟨rfl, hb2⟩; have hc2 := kc hb2 hc1; have hr2 := hr1.below hb2; have hB2 := Lib.hid (below_trans hB1.out hb2); clear hb2)
    | (go_at_call 26; refine (impl_within m 4 64 _ (by omega) (by omega)).mono ?_; rintro e w' ⟨rfl, rfl⟩))
  go_upto_region 5 with (fail)
  obtain ⟨N, hN⟩ : ∃ N, N = 4 * m := ⟨_, rfl⟩
  have HF0 : Hid (TF w w.heap.size g cap ys w2.heap.size (corners low high) ((w2.alloc (.cells #[cv low, .complex .f32 high.1 low.2, cv high, .complex .f32 low.1 high.2, cv low] 31)).alloc (.cells #[] 31))) :=
    Lib.hid ⟨kca (kca hc2 _) _, (hr2.alloc _).alloc _, (corners_rd w2 low high _).alloc _, below_trans hB2.out (((Below.refl _ _).alloc (Nat.le_refl _) _).alloc (by simp) _)⟩
  have HO0 : Hid (OwnC ((w2.alloc (.cells #[cv low, .complex .f32 high.1 low.2, cv high, .complex .f32 low.1 high.2, cv low] 31)).alloc (.cells #[] 31)) (w2.heap.size + 1) (.slice (some ⟨w2.heap.size + 1, 0, none⟩) 0 0) []) := by
    have := OwnC.made (w2.alloc (.cells #[cv low, .complex .f32 high.1 low.2, cv high, .complex .f32 low.1 high.2, cv low] 31)) (w2.heap.size + 1) (by simp)
    rw [show (w2.alloc (.cells #[cv low, .complex .f32 high.1 low.2, cv high, .complex .f32 low.1 high.2, cv low] 31)).heap.size = w2.heap.size + 1 by simp] at this
    exact Lib.hid this
  have hbs : w2.heap.size + 1 ≤ ((w2.alloc (.cells #[cv low, .complex .f32 high.1 low.2, cv high, .complex .f32 low.1 high.2, cv low] 31)).alloc (.cells #[] 31)).heap.size := by simp
  have hg2 : g < w2.heap.size + 1 := Nat.lt_succ_of_lt hr2.1
  have hb2 : w.heap.size < w2.heap.size + 1 := Nat.lt_succ_of_lt (World.block_lt_of_cell? w2 _ hc2)
  generalize (w2.alloc (.cells #[cv low, .complex .f32 high.1 low.2, cv high, .complex .f32 low.1 high.2, cv low] 31)).alloc (.cells #[] 31) = w4 at HF0 HO0 hbs ⊢
  obtain ⟨gc, hgc⟩ : ∃ gc, gc = w2.heap.size := ⟨_, rfl⟩
  rw [← hgc] at HF0 HO0 hbs hg2 hb2 ⊢
  clear hgc hc1 hc2 hr1 hr2 hB1 hB2
  obtain ⟨bp, hbp⟩ : ∃ bp, bp = w.heap.size := ⟨_, rfl⟩
  have HF : Hid (TF w bp g cap ys gc (corners low high) w4) := Lib.hid (by rw [hbp]; exact HF0.out)
  have HG2 := Lib.hid hg2
  have HB2 : Hid (bp < gc + 1) := Lib.hid (by rw [hbp]; exact hb2)
  have HB3 : Hid (w.heap.size ≤ gc + 1) := Lib.hid (by omega)
  rw [← hbp]
  clear HF0 hg2 hb2 hbp
  have HSTEP : Hid (∀ {W W' : World}, TF w bp g cap ys gc (corners low high) W → Below (gc + 1) W W' → TF w bp g cap ys gc (corners low high) W') :=
    Lib.hid (fun h hb => h.step' hb HB3.out HB2.out HG2.out (Nat.lt_succ_self gc))
  clear HG2 HB2 HB3
  go_wp2_with fail
  go_loopg [11, 49] (4 : Nat) (fun gk vs i wr => ∃ sd : Nat, sd ≤ 4 ∧ gk = 4 - sd ∧ i = .int .i64 sd ∧ OwnC wr (gc + 1) vs (upto v (sd * m)) ∧ TF w bp g cap ys gc (corners low high) wr ∧ gc + 1 ≤ wr.heap.size)
  case atStart => exact ⟨0, by omega, by omega, rfl, by simpa [upto] using HO0.out, HF.out, hbs⟩
  case round =>
    obtain ⟨sd, hsd, hgk, rfl, hown, hf, hws⟩ := hrel
    obtain ⟨wo, rfl⟩ : ∃ wo : World, wo = wr := ⟨_, rfl⟩
    have HFA := Lib.hid hf
    have HOA := Lib.hid hown
    have HGK := Lib.hid hgk
    have HWS := Lib.hid hws
    clear hf hown hgk hws
    by_cases hlt : sd < 4
    · have hdec : decide ((sd : Int) < 4) = true := by simp; omega
      have hcs1 : wo.cell? ⟨gc, sd, none⟩ = some (cv (cor low high sd)) := by have := HFA.out.rc.2 sd (by simp [corners]; omega); rwa [corners_at low high (by omega)] at this
      have hcs2 : wo.cell? ⟨gc, sd + 1, none⟩ = some (cv (cor low high (sd + 1))) := by have := HFA.out.rc.2 (sd + 1) (by simp [corners]; omega); rwa [corners_at low high (by omega)] at this
      have hsz := Lib.hid (HP.out.size sd hlt)
      have hsw : IntKind.i64.wrap ((sd : Int) + 1) = (sd : Int) + 1 := IntWalk.i64_in _ (by omega)
      have hsn : ((sd : Int) + 1).toNat = sd + 1 := by omega
      have hs0 : (0 : Int) ≤ (sd : Int) + 1 := by omega
      have hs5 : (sd : Int) + 1 < 5 := by omega
      go_upto_region 8 with (fail)
      go_quiet ((go_at_call 27; exact quietL0 (impl_minus (cor low high (sd + 1)) (cor low high sd) (d sd) hsz.out _)))
      have HFB := Lib.hid (HFA.out.drewN nq)
      have HOB := Lib.hid (HOA.out.drewN (n := nq))
      have HWB : Hid (gc + 1 ≤ (wo.drewN nq).heap.size) := Lib.hid HWS.out
      generalize wo.drewN nq = wB at HFB HOB HWB ⊢
      clear hcs1 hcs2 hsw hsn hs0 hs5 HFA HOA HWS
      go_wp2_with fail
      go_loopg [11, 67] (m : Nat) (fun gk2 vs i wr => ∃ k : Nat, k ≤ m ∧ gk2 = m - k ∧ i = .int .i64 k ∧ OwnC wr (gc + 1) vs (upto v (sd * m + k)) ∧ TF w bp g cap ys gc (corners low high) wr ∧ gc + 1 ≤ wr.heap.size)
      case atStart => exact ⟨0, by omega, by omega, rfl, HOB.out, HFB.out, HWB.out⟩
      case round =>
        obtain ⟨k, hk, hgk2, rfl, hown, hf, hws⟩ := hrel
        obtain ⟨wi, rfl⟩ : ∃ wi : World, wi = wr := ⟨_, rfl⟩
        have HFi := Lib.hid hf
        have HOi := Lib.hid hown
        have HGi := Lib.hid hgk2
        have HWi := Lib.hid hws
        clear hf hown hgk2 hws
        by_cases hlk : k < m
        · have hsm : sd * m + k < 4 * m := by
            have h1 : sd * m ≤ 3 * m := Nat.mul_le_mul_right m (by omega)
            omega
          obtain ⟨f, e, q1, q2, q3⟩ := HP.out.pt sd k hlt hlk
          obtain ⟨p1, p2, p3, p4⟩ := HVL.out (sd * m + k) hsm
          have Y1 := Lib.hid (fun W => impl_ScaleComplex (d sd) e f q2 W)
          have Y2 := Lib.hid (fun W => impl_plus (cor low high sd) e (z (sd * m + k)) q3 W)
          have Y3 := Lib.hid (fun W (h : TF w bp g cap ys gc (corners low high) W) => impl_PolyAt g cap ys (z (sd * m + k)) (v (sd * m + k)) W h.ry HV.out p1 p2 p3)
          have HSM := Lib.hid hsm
          have P4 := Lib.hid p4
          clear q2 q3 p1 p2 p3 hsm p4
          unfold div32 at q1
          have cI := HFi.out.c
          go_upto_region 12 with (fail)
          go_cut [16, 17] (fun a b wx => a = cv (v (sd * m + k)) ∧ b = .bool true ∧ TF w bp g cap ys gc (corners low high) wx ∧ Below wi.heap.size wi wx)
          case first =>
            go_region_law (first
              | (go_simp; go_at_call 30; (with_reducible refine (Y1.out _).mono ?_); rintro e w' ⟨rfl, rfl⟩)
              | (go_simp; go_at_call 29; (with_reducible refine (Y2.out _).mono ?_); rintro e w' ⟨rfl, rfl⟩)
              | (go_simp; go_at_call 28; (with_reducible refine (Y3.out _ HFi.out.drew).mono ?_); rintro e wC ⟨rfl, hbC⟩; have HFC := Lib.hid (HFi.out.drew.step hbC); have HBC := Lib.hid hbC; clear hbC))
            all_goals
              (try go_simp)
              go_wp2_with fail
              go_meet
              case rel => exact ⟨rfl, rfl, HFC.out, ⟨HBC.out.os, HBC.out.tape, HBC.out.output, HBC.out.size, HBC.out.block⟩⟩
          case rest =>
            obtain ⟨rfl, rfl, hfc, hbc⟩ := hcut
            have HFC := Lib.hid hfc
            have HOC := Lib.hid (HOi.out.below hbc)
            have hwc : gc + 1 ≤ wc.heap.size := Nat.le_trans HWi.out hbc.size
            have p4 := P4.out
            obtain ⟨gv, capv, rfl, hgv, hrv, hcv⟩ := HOC.out.rd
            have HWC := Lib.hid hwc
            clear hfc hbc cI q1 hwc hgv hrv hcv HOi
            go_wp2_with (at_builtin; refine append1 rfl (.tmp 90) (.tmp 92) rfl (gc + 1) _ _ rfl HOC.out (v (sd * m + k)) rfl (by rw [upto_length]; have := HSM.out; omega) HWC.out ?_; intro v' wD hown3 hb3; have HOD := Lib.hid hown3; have HFD := Lib.hid (HSTEP.out HFC.out hb3); have HWD : Hid (gc + 1 ≤ wD.heap.size) := Lib.hid (Nat.le_trans HWC.out hb3.size); clear hown3 hb3)
            go_roundg (m - (k + 1))
            case measure => have := HGi.out; omega
            case rel => exact ⟨k + 1, by omega, rfl, by go_num, by have := HOD.out; rw [← upto_succ] at this; exact this, HFD.out, HWD.out⟩
        · have hkm : k = m := by omega
          subst hkm
          go_wp2_with fail
          go_roundg (4 - (sd + 1))
          case measure => have := HGK.out; omega
          case rel => exact ⟨sd + 1, by omega, rfl, by go_num, by have := HOi.out; rw [show sd * k + k = (sd + 1) * k by rw [Nat.add_mul, Nat.one_mul]] at this; exact this, HFi.out, HWi.out⟩
    · have hs4 : sd = 4 := by omega
      subst hs4
      obtain ⟨gv, capv, rfl, hgv, hrv, hcv⟩ := HOA.out.rd
      have h0m : 0 < 4 * m := by omega
      have hv0 : wo.cell? ⟨gv, 0, none⟩ = some (cv (v 0)) := by have := hrv.2 0 (by rw [upto_length]; exact h0m); rwa [upto_at h0m] at this
      have hlen0 : (0 : Int) < ((upto v (4 * m)).length : Int) := by rw [upto_length]; omega
      have hlb : ((upto v (4 * m)).length : Int) ≤ 256 := by rw [upto_length]; omega
      clear hgv hrv hcv HGK hlt hsd
      go_upto_region 19 with (at_builtin; refine append1 rfl (.tmp 96) (.tmp 100) rfl (gc + 1) _ _ rfl HOA.out (v 0) rfl (by rw [upto_length]; omega) HWS.out ?_; intro v' wD hown3 hb3; have HOD := Lib.hid hown3; have HFD := Lib.hid (HSTEP.out HFA.out hb3); clear hown3 hb3)
      obtain ⟨L, hL⟩ : ∃ L, L = upto v (4 * m) ++ [v 0] := ⟨_, rfl⟩
      have HLL : Hid (L.length = 4 * m + 1) := Lib.hid (by rw [hL]; simp [upto_length])
      have HLA : Hid (∀ j, j < 4 * m → at_ L j = v j ∧ at_ L (j + 1) = v (nx (4 * m) j)) := by
        refine Lib.hid (fun j hj => ?_)
        have e1 : at_ L j = v j := by rw [hL, at_append (by rw [upto_length]; exact hj), upto_at hj]
        refine ⟨e1, ?_⟩
        unfold nx
        by_cases e : j + 1 = 4 * m
        · rw [if_pos e, hL, e]
          have := at_last (rs := upto v (4 * m)) (z := v 0)
          rwa [upto_length] at this
        · rw [if_neg e, hL, at_append (by rw [upto_length]; omega), upto_at (by omega)]
      rw [← hL] at HOD
      obtain ⟨gl, capl, rfl, hgl, hrl, hcl⟩ := HOD.out.rd
      have HRL := Lib.hid hrl
      clear hL hgl hrl hcl HOD hv0 hlen0 hlb HOA
      go_wp2_with fail
      go_loopg [18, 19] (4 * m : Nat) (fun gk sm i wr => ∃ j : Nat, j ≤ 4 * m ∧ gk = 4 * m - j ∧ sm = .float .f32 (t j) ∧ i = .int .i64 ((j : Int) + 1) ∧ TF w bp g cap ys gc (corners low high) wr ∧ Rd wr gl L)
      case atStart => exact ⟨0, by omega, by omega, by rw [HT.out.zero], rfl, HFD.out, HRL.out⟩
      case round =>
        obtain ⟨j, hj, hgk, rfl, rfl, hf, hl⟩ := hrel
        obtain ⟨wo2, rfl⟩ : ∃ wo2 : World, wo2 = wr := ⟨_, rfl⟩
        have HFE := Lib.hid hf
        have HRE := Lib.hid hl
        have HGE := Lib.hid hgk
        clear hf hl hgk
        have hjn : ((j : Int) + 1).toNat = j + 1 := by omega
        have hj0 : (0 : Int) ≤ (j : Int) + 1 := by omega
        by_cases hlt : j < 4 * m
        · have hd1 : decide ((j : Int) + 1 < (L.length : Int)) = true := by rw [HLL.out]; simp; omega
          have hi1 : (j : Int) + 1 < (L.length : Int) := by rw [HLL.out]; omega
          have hi2 : (j : Int) < (L.length : Int) := by rw [HLL.out]; omega
          have hLb : (L.length : Int) ≤ 257 := by rw [HLL.out]; omega
          obtain ⟨q, a, r1, r2, r3, r4, r5⟩ := HT.out.step j hlt
          have c1 : wo2.cell? ⟨gl, j + 1, none⟩ = some (cv (v (nx (4 * m) j))) := by have := HRE.out.2 (j + 1) (by rw [HLL.out]; omega); rwa [(HLA.out j hlt).2] at this
          have c2 : wo2.cell? ⟨gl, j, none⟩ = some (cv (v j)) := by have := HRE.out.2 j (by rw [HLL.out]; omega); rwa [(HLA.out j hlt).1] at this
          have Y1 := Lib.hid (fun W => impl_QuotientOf (v (nx (4 * m) j)) (v j) q r1 W)
          have Y2 := Lib.hid (fun W => impl_AngleOf q a W r3)
          clear r1 r2 r3 r4
          unfold add32 at r5
          go_upto_region 23 with (fail)
          have hwj : IntKind.i64.wrap (j : Int) = j := IntWalk.i64_in _ (by omega)
          have hj00 : (0 : Int) ≤ j := by omega
          have hw2 : IntKind.i64.wrap ((j : Int) + 1 + 1) = (j : Int) + 1 + 1 := IntWalk.i64_in _ (by omega)
          go_region_law (first
            | (go_simp; go_at_call 32; (with_reducible refine (Y1.out _).mono ?_); rintro e w' ⟨rfl, rfl⟩)
            | (go_simp; go_at_call 31; (with_reducible refine (Y2.out _).mono ?_); rintro e wC ⟨rfl, hbC⟩; have HBC : Hid (Below wo2.heap.size wo2 wC) := Lib.hid ⟨hbC.os, hbC.tape, hbC.output, hbC.size, hbC.block⟩; clear hbC))
          all_goals
            (try go_simp)
            go_wp2_with fail
            go_roundg (4 * m - (j + 1))
            case measure => have := HGE.out; omega
            case rel => exact ⟨j + 1, by omega, rfl, rfl, by go_num, HFE.out.step HBC.out, HRE.out.below HBC.out⟩
        · have hje : j = 4 * m := by omega
          have hd1 : decide ((j : Int) + 1 < (L.length : Int)) = false := by rw [HLL.out]; simp; omega
          have hS : t j = s := by rw [hje]; exact HS.out
          have hfin : Fin (t j) := by rw [hje]; exact HT.out.fin
          have HFN := Lib.hid hfin
          have HSS := Lib.hid hS
          clear hje hlt hfin hS
          go_wp2_with (go_at_call 33; (with_reducible refine (impl_checked (t j) HFN.out _).mono ?_); rintro e w' ⟨rfl, rfl⟩)
          go_ret2
          exact ⟨ret_ff HSS.out, HFE.out.b⟩
end Go.Proofs.Ytlhdgbiaiacpfaa
