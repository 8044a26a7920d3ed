/- The reference's turns of a box. No condition but that the operations are valid and finite. -/
import Derived.Test.YtlhdgbiaiacpfaaB2
namespace Go.Proofs.Ytlhdgbiaiacpfaa
open Go.RowKit

/-- What lies in memory while the turns are made: the polynomial, its terms, the corners; here w is where the call began. -/
theorem TF.of {w : World} {bp g cap : Nat} {ys : List C} {gc : Nat} {cs : List C} {W : World} (h : TF w bp g cap ys gc cs W) : Below w.heap.size w W := h.b
/-- Which value a point has: the last point is the first. -/
def vv (n : Nat) (v : Nat → C) (j : Nat) : C := v (if j = n then 0 else j)

set_option maxRecDepth 100000 in
set_option maxHeartbeats 4000000 in
theorem spec_l05Turns (bp g cap : Nat) (ys : List C) (low high : C) (m s : Nat) (w : World) (hp : w.cell? ⟨bp, 0, none⟩ = some (.slice (some ⟨g, 0, none⟩) ys.length cap)) (hr : Rd w g ys) (hv : VP ys) (hm : 4 ≤ m) (hm2 : m ≤ 64) (h : BoxOk ys low high m s) :
    Calls Try.prog 79 #[.pointer (some ⟨bp, 0, none⟩), cv low, cv high, .int .i64 m] w fun e w' => e = .returned (.tuple #[.float .f32 s, .bool true]) ∧ Below w.heap.size w w' := by
  obtain ⟨d0, d, z, v, t, hbox, hpts, hvls, htrn, hs⟩ := h
  have HV := Lib.hid hv
  have HP := Lib.hid hpts
  have HVL := Lib.hid hvls
  have HT := Lib.hid htrn
  have HS := Lib.hid hs
  have HR := Lib.hid hr
  have HPP := Lib.hid hp
  clear hv hpts hvls htrn hs hr hbox
  go_enter Try.func79, Try.ntmps79
  go_upto_region 3 with (fail)
  have HF0 : Hid (TF w bp g cap ys w.heap.size (corners low high) ((w.alloc (.cells #[cv low, .complex .f32 high.1 low.2, cv high, .complex .f32 low.1 high.2, cv low] 31)).alloc (.cells #[] 31))) :=
    Lib.hid ⟨kca (kca HPP.out _) _, (HR.out.alloc _).alloc _, (corners_rd w low high _).alloc _, (((Below.refl _ _).alloc (Nat.le_refl _) _).alloc (by simp) _)⟩
  have HO0 : Hid (OwnC ((w.alloc (.cells #[cv low, .complex .f32 high.1 low.2, cv high, .complex .f32 low.1 high.2, cv low] 31)).alloc (.cells #[] 31)) (w.heap.size + 1) (.slice (some ⟨w.heap.size + 1, 0, none⟩) 0 0) []) := by
    have := OwnC.made (w.alloc (.cells #[cv low, .complex .f32 high.1 low.2, cv high, .complex .f32 low.1 high.2, cv low] 31)) (w.heap.size + 1) (by simp)
    rw [show (w.alloc (.cells #[cv low, .complex .f32 high.1 low.2, cv high, .complex .f32 low.1 high.2, cv low] 31)).heap.size = w.heap.size + 1 by simp] at this
    exact Lib.hid this
  have hbs : w.heap.size + 1 ≤ ((w.alloc (.cells #[cv low, .complex .f32 high.1 low.2, cv high, .complex .f32 low.1 high.2, cv low] 31)).alloc (.cells #[] 31)).heap.size := by simp
  have hg2 : g < w.heap.size + 1 := Nat.lt_succ_of_lt HR.out.1
  have hb2 : bp < w.heap.size + 1 := Nat.lt_succ_of_lt (World.block_lt_of_cell? w _ HPP.out)
  generalize (w.alloc (.cells #[cv low, .complex .f32 high.1 low.2, cv high, .complex .f32 low.1 high.2, cv low] 31)).alloc (.cells #[] 31) = w4 at HF0 HO0 hbs ⊢
  obtain ⟨gc, hgc⟩ : ∃ gc, gc = w.heap.size := ⟨_, rfl⟩
  have HB3 : Hid (w.heap.size ≤ gc + 1) := Lib.hid (by omega)
  rw [← hgc] at HF0 HO0 hbs hg2 hb2 ⊢
  have HG2 := Lib.hid hg2
  have HB2 := Lib.hid hb2
  have HGC := Lib.hid hgc
  clear hgc hg2 hb2
  have HF := HF0
  clear HF0
  have HSTEP : Hid (∀ {W W' : World}, TF w bp g cap ys gc (corners low high) W → Below (gc + 1) W W' → TF w bp g cap ys gc (corners low high) W') :=
    Lib.hid (fun h hb => h.step' hb HB3.out HB2.out HG2.out (Nat.lt_succ_self gc))
  clear HG2 HB2 HB3
  go_wp2_with fail
  go_loopg [11, 12] (4 : Nat) (fun gk vs i wr => ∃ sd : Nat, sd ≤ 4 ∧ gk = 4 - sd ∧ i = .int .i64 sd ∧ OwnC wr (gc + 1) vs (upto z (sd * m)) ∧ TF w bp g cap ys gc (corners low high) wr ∧ gc + 1 ≤ wr.heap.size)
  case atStart => exact ⟨0, by omega, by omega, rfl, by simpa [upto] using HO0.out, HF.out, hbs⟩
  case round =>
    obtain ⟨sd, hsd, hgk, rfl, hown, hf, hws⟩ := hrel
    obtain ⟨wo, rfl⟩ : ∃ wo : World, wo = wr := ⟨_, rfl⟩
    have HFA := Lib.hid hf
    have HOA := Lib.hid hown
    have HGK := Lib.hid hgk
    have HWS := Lib.hid hws
    clear hf hown hgk hws
    by_cases hlt : sd < 4
    · have hdec : decide ((sd : Int) < 4) = true := by simp; omega
      have hcs1 : wo.cell? ⟨gc, sd, none⟩ = some (cv (cor low high sd)) := by have := HFA.out.rc.2 sd (by simp [corners]; omega); rwa [corners_at low high (by omega)] at this
      have hcs2 : wo.cell? ⟨gc, sd + 1, none⟩ = some (cv (cor low high (sd + 1))) := by have := HFA.out.rc.2 (sd + 1) (by simp [corners]; omega); rwa [corners_at low high (by omega)] at this
      have hsz := HP.out.size sd hlt
      have hsw : IntKind.i64.wrap ((sd : Int) + 1) = (sd : Int) + 1 := IntWalk.i64_in _ (by omega)
      have hsn : ((sd : Int) + 1).toNat = sd + 1 := by omega
      have hs0 : (0 : Int) ≤ (sd : Int) + 1 := by omega
      have hs5 : (sd : Int) + 1 < 5 := by omega
      go_upto_region 6 with (fail)
      go_quiet (fail)
      have HFB := Lib.hid (HFA.out.drewN nq)
      have HOB := Lib.hid (HOA.out.drewN (n := nq))
      have HWB : Hid (gc + 1 ≤ (wo.drewN nq).heap.size) := Lib.hid HWS.out
      generalize wo.drewN nq = wB at HFB HOB HWB ⊢
      clear hcs1 hcs2 hsw hsn hs0 hs5 HFA HOA HWS hsz
      go_wp2_with fail
      go_loopg [11, 14] (m : Nat) (fun gk2 vs i wr => ∃ k : Nat, k ≤ m ∧ gk2 = m - k ∧ i = .int .i64 k ∧ OwnC wr (gc + 1) vs (upto z (sd * m + k)) ∧ TF w bp g cap ys gc (corners low high) wr ∧ gc + 1 ≤ wr.heap.size)
      case atStart => exact ⟨0, by omega, by omega, rfl, HOB.out, HFB.out, HWB.out⟩
      case round =>
        obtain ⟨k, hk, hgk2, rfl, hown, hf, hws⟩ := hrel
        obtain ⟨wi, rfl⟩ : ∃ wi : World, wi = wr := ⟨_, rfl⟩
        have HFi := Lib.hid hf
        have HOi := Lib.hid hown
        have HGi := Lib.hid hgk2
        have HWi := Lib.hid hws
        clear hf hown hgk2 hws
        by_cases hlk : k < m
        · have hsm : sd * m + k < 4 * m := by
            have h1 : sd * m ≤ 3 * m := Nat.mul_le_mul_right m (by omega)
            omega
          obtain ⟨f, e, q1, q2, q3⟩ := HP.out.pt sd k hlt hlk
          have Y1 := Lib.hid (fun W => spec_l02Times (d sd) e f q2 W)
          have hcs1 : wi.cell? ⟨gc, sd, none⟩ = some (cv (cor low high sd)) := by have := HFi.out.rc.2 sd (by simp [corners]; omega); rwa [corners_at low high (by omega)] at this
          have hs55 : (sd : Int) < 5 := by omega
          have HUL : Hid ((upto z (sd * m + k)).length < 1000) := Lib.hid (by rw [upto_length]; omega)
          clear q2 hsm
          unfold div32 at q1
          have HO2 := Lib.hid HOi.out.drew
          have HW2 : Hid (gc + 1 ≤ wi.drew.heap.size) := Lib.hid HWi.out
          go_upto_region 10 with (fail)
          have hoi := HOi.out
          have hwi := HWi.out
          have hul := HUL.out
          go_region_law (first
            | (go_simp; go_at_call 62; (with_reducible refine (Y1.out _).mono ?_); rintro e w' ⟨rfl, rfl⟩)
            | (refine step_append1d (o := ⟨some 69, _, _, _, _, _⟩) rfl (.tmp 55) (.tmp 68) rfl (gc + 1) u11 (upto z (sd * m + k)) rfl hoi (z (sd * m + k)) rfl hul hwi ?_; intro v' wD hown3 hb3; have HOD := Lib.hid hown3; have HFD := Lib.hid (HSTEP.out HFi.out hb3); have HWD : Hid (gc + 1 ≤ wD.heap.size) := Lib.hid (Nat.le_trans HWi.out hb3.size); clear hown3 hb3))
          all_goals
            (try go_simp)
            go_wp2_with fail
            go_roundg (m - (k + 1))
            case measure => have := HGi.out; omega
            case rel => exact ⟨k + 1, by omega, rfl, by go_num, by have := HOD.out; rw [← upto_succ] at this; exact this, HFD.out, HWD.out⟩
        · have hkm : k = m := by omega
          subst hkm
          go_wp2_with fail
          go_roundg (4 - (sd + 1))
          case measure => have := HGK.out; omega
          case rel => exact ⟨sd + 1, by omega, rfl, by go_num, by have := HOi.out; rw [show sd * k + k = (sd + 1) * k by rw [Nat.add_mul, Nat.one_mul]] at this; exact this, HFi.out, HWi.out⟩
    · have hs4 : sd = 4 := by omega
      subst hs4
      obtain ⟨gv, capv, rfl, hgv, hrv, hcv⟩ := HOA.out.rd
      have h0m : 0 < 4 * m := by omega
      clear hgv hrv hcv HGK hlt hsd
      go_upto_region 12 with (at_builtin; refine append1 rfl (.tmp 70) (.tmp 72) rfl (gc + 1) _ _ rfl HOA.out low rfl (by rw [upto_length]; omega) HWS.out ?_; intro v' wD hown3 hb3; have HOD := Lib.hid hown3; have HFD := Lib.hid (HSTEP.out HFA.out hb3); clear hown3 hb3)
      obtain ⟨L, hL⟩ : ∃ L, L = upto z (4 * m) ++ [low] := ⟨_, rfl⟩
      have HLL : Hid (L.length = 4 * m + 1) := Lib.hid (by rw [hL]; simp [upto_length])
      have HLA : Hid (∀ j, j < 4 * m + 1 → at_ L j = z (if j = 4 * m then 0 else j)) := by
        refine Lib.hid (fun j hj => ?_)
        by_cases e : j = 4 * m
        · rw [if_pos e, hL, e, HP.out.first]
          have := at_last (rs := upto z (4 * m)) (z := low)
          rwa [upto_length] at this
        · rw [if_neg e, hL, at_append (by rw [upto_length]; omega), upto_at (by omega)]
      rw [← hL] at HOD
      obtain ⟨gl, capl, rfl, hgl, hrl, hcl⟩ := HOD.out.rd
      have HRL := Lib.hid hrl
      clear hL hgl hrl hcl HOD HOA
      have hll0 : (L.length : Int) ≤ 257 := by rw [HLL.out]; omega
      go_wp2_with fail
      go_loopg [15, 16, 76] (4 * m + 1 : Nat) (fun gk sm bf i wr => ∃ j : Nat, j ≤ 4 * m + 1 ∧ gk = 4 * m + 1 - j ∧ i = .int .i64 j ∧ (j = 0 → sm = .float .f32 0 ∧ bf = .complex .f32 0 0) ∧ (∀ l : Nat, j = l + 1 → sm = .float .f32 (t l) ∧ bf = cv (vv (4 * m) v l)) ∧ TF w bp g cap ys gc (corners low high) wr ∧ Rd wr gl L)
      case atStart => exact ⟨0, by omega, by omega, rfl, fun _ => ⟨rfl, rfl⟩, fun l h => by omega, HFD.out, HRL.out⟩
      case round =>
        obtain ⟨j, hj, hgk, rfl, hz0, hz1, hf, hl⟩ := hrel
        obtain ⟨wo2, rfl⟩ : ∃ wo2 : World, wo2 = wr := ⟨_, rfl⟩
        have HFE := Lib.hid hf
        have HRE := Lib.hid hl
        have HGE := Lib.hid hgk
        clear hf hl hgk
        have hj0 : (0 : Int) ≤ j := by omega
        by_cases hlt : j < 4 * m + 1
        · have hd1 : decide ((j : Int) < (L.length : Int)) = true := by rw [HLL.out]; simp; omega
          have hi1 : (j : Int) < (L.length : Int) := by rw [HLL.out]; omega
          have hix : (if j = 4 * m then 0 else j) < 4 * m := by split <;> omega
          obtain ⟨p1, p2, p3, p4⟩ := HVL.out (if j = 4 * m then 0 else j) hix
          have c1 : wo2.cell? ⟨gl, j, none⟩ = some (cv (z (if j = 4 * m then 0 else j))) := by have := HRE.out.2 j (by rw [HLL.out]; omega); rwa [HLA.out j hlt] at this
          have cP := HFE.out.c
          have Y3 := Lib.hid (fun W (h : TF w bp g cap ys gc (corners low high) W) => spec_PolyAt g cap ys (z (if j = 4 * m then 0 else j)) (v (if j = 4 * m then 0 else j)) W h.ry HV.out p1 p2 p3)
          obtain ⟨zj, hzj⟩ : ∃ zj, zj = z (if j = 4 * m then 0 else j) := ⟨_, rfl⟩
          obtain ⟨vj, hvj⟩ : ∃ vj, vj = v (if j = 4 * m then 0 else j) := ⟨_, rfl⟩
          rw [← hvj] at p4
          rw [← hvj, ← hzj] at Y3
          rw [← hzj] at c1
          have P4 := Lib.hid p4
          have HVJ := Lib.hid hvj
          clear p1 p2 p3 p4 hix hzj hvj
          have hw2 : IntKind.i64.wrap ((j : Int) + 1) = (j : Int) + 1 := IntWalk.i64_in _ (by omega)
          go_upto_region 17 with (fail)
          go_cut [18, 19] (fun a b wx => a = cv vj ∧ b = .bool true ∧ Below wo2.heap.size wo2 wx)
          case first =>
            go_region_law (first
              | (go_simp; go_at_call 90; (with_reducible refine (Y3.out _ HFE.out.drew).mono ?_); rintro e wC ⟨rfl, hbC⟩; have HBC : Hid (Below wo2.heap.size wo2 wC) := Lib.hid ⟨hbC.os, hbC.tape, hbC.output, hbC.size, hbC.block⟩; clear hbC))
            all_goals
              (try go_simp)
              go_wp2_with fail
              go_meet
              case rel => exact ⟨rfl, rfl, HBC.out⟩
          case rest =>
            obtain ⟨rfl, rfl, hbc⟩ := hcut
            have HFF := Lib.hid (HFE.out.step hbc)
            have HRF := Lib.hid (HRE.out.below hbc)
            clear hbc c1 cP
            have p4 := P4.out
            by_cases hj00 : j = 0
            · obtain ⟨rfl, rfl⟩ := hz0 hj00
              subst hj00
              clear hz0 hz1
              have hdz : decide ((0 : Int) < ((0 : Nat) : Int)) = false := by simp
              go_wp2_with fail
              go_roundg (4 * m + 1 - 1)
              case measure => have := HGE.out; omega
              case rel => exact ⟨1, by omega, rfl, rfl, fun h => by omega, fun l h => by (obtain rfl : l = 0 := by omega); exact ⟨by rw [HT.out.zero], by rw [HVJ.out]; rfl⟩, HFF.out, HRF.out⟩
            · obtain ⟨l, rfl⟩ : ∃ l, j = l + 1 := ⟨j - 1, by omega⟩
              obtain ⟨rfl, rfl⟩ := hz1 l rfl
              have hl4 : l < 4 * m := by omega
              obtain ⟨q, a, r1, r2, r3, r4, r5⟩ := HT.out.step l hl4
              have e1 : v (nx (4 * m) l) = vj := by rw [HVJ.out]; rfl
              have e2 : vv (4 * m) v l = v l := by unfold vv; rw [if_neg (by omega)]
              rw [e1, ← e2] at r1
              have Y1 := Lib.hid (fun W => spec_l01Quotient vj (vv (4 * m) v l) q r1 W)
              have Y2 := Lib.hid (fun W => spec_l01CFinite q r2 W)
              have Y4 := Lib.hid (fun W => spec_AngleOf_is q a W r4)
              clear r1 r2 r3 r4 e1 e2 hz0 hz1
              unfold add32 at r5
              have hdz : decide ((0 : Int) < ((l + 1 : Nat) : Int)) = true := by simp
              go_wp2_with (first
                | (go_at_call 91; (with_reducible refine (Y1.out _).mono ?_); rintro e w' ⟨rfl, rfl⟩)
                | (go_at_call 43; (with_reducible refine (Y2.out _).mono ?_); rintro e w' ⟨rfl, rfl⟩)
                | (go_at_call 92; (with_reducible refine (Y4.out _).mono ?_); rintro e w' ⟨rfl, rfl⟩))
              go_roundg (4 * m + 1 - (l + 1 + 1))
              case measure => have := HGE.out; omega
              case rel => exact ⟨l + 1 + 1, by omega, rfl, by go_num, fun h => by omega, fun l' h => by (obtain rfl : l' = l + 1 := by omega); exact ⟨rfl, by rw [HVJ.out]; rfl⟩, HFF.out, HRF.out⟩
        · have hje : j = 4 * m + 1 := by omega
          have hd1 : decide ((j : Int) < (L.length : Int)) = false := by rw [HLL.out]; simp; omega
          have hd2 : decide (j < L.length) = false := by rw [HLL.out]; simp; omega
          have hd3 : (j < L.length) = False := by rw [HLL.out]; simp; omega
          obtain ⟨rfl, _⟩ := hz1 (4 * m) hje
          have HFN := Lib.hid HT.out.fin
          clear hje hlt hz0 hz1
          go_wp2_with (go_at_call 93; (with_reducible refine (spec_l02Number (t (4 * m)) HFN.out _).mono ?_); rintro e w' ⟨rfl, rfl⟩)
          have hss := HS.out
          subst hss
          have hb := HFE.out.b
          (try simp only [Exit.inBlock, Exit.then])
          apply bodyPost_ret
          · exact results_tmp2 rfl _ _ _
          · rfl
          · exact ⟨rfl, hb⟩
end Go.Proofs.Ytlhdgbiaiacpfaa
