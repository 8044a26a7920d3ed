/- The reference's counts of a box's quarters. No condition but that the operations are valid and finite. -/
import Derived.Test.YtlhdgbiaiacpfaaB6
import Derived.Deep.RegionLaw
namespace Go.Proofs.Ytlhdgbiaiacpfaa
open Go.RowKit

def lows (low m : C) : List C := [qlo low m 0, qlo low m 1, qlo low m 2, qlo low m 3]
def highs (m high : C) : List C := [qhi m high 0, qhi m high 1, qhi m high 2, qhi m high 3]
theorem lows_at (low m : C) {k : Nat} (h : k < 4) : at_ (lows low m) k = qlo low m k := by
  obtain rfl | rfl | rfl | rfl : k = 0 ∨ k = 1 ∨ k = 2 ∨ k = 3 := by omega
  all_goals rfl
theorem highs_at (m high : C) {k : Nat} (h : k < 4) : at_ (highs m high) k = qhi m high k := by
  obtain rfl | rfl | rfl | rfl : k = 0 ∨ k = 1 ∨ k = 2 ∨ k = 3 := by omega
  all_goals rfl
/-- What lies in memory while the quarters are counted. -/
structure QF (w : World) (bp g cap : Nat) (ys : List C) (g1 g2 : Nat) (low m high : C) (B : Nat) (W : World) : Prop where
  c : W.cell? ⟨bp, 0, none⟩ = some (.slice (some ⟨g, 0, none⟩) ys.length cap)
  ry : Rd W g ys
  r1 : Rd W g1 (lows low m)
  r2 : Rd W g2 (highs m high)
  b : Below w.heap.size w W
  s : B ≤ W.heap.size
theorem QF.step {w : World} {bp g cap : Nat} {ys : List C} {g1 g2 : Nat} {low m high : C} {B : Nat} {W W' : World} (h : QF w bp g cap ys g1 g2 low m high B W) (hb : Below W.heap.size W W') : QF w bp g cap ys g1 g2 low m high B W' :=
  ⟨kc hb h.c, h.ry.below hb, h.r1.below hb, h.r2.below hb, below_trans h.b hb, Nat.le_trans h.s hb.size⟩
theorem QF.step' {w : World} {bp g cap : Nat} {ys : List C} {g1 g2 : Nat} {low m high : C} {B : Nat} {W W' : World} (h : QF w bp g cap ys g1 g2 low m high B W) (hb : Below B W W') (h0 : w.heap.size ≤ B) (h1 : bp < B) (h2 : g < B) (h3 : g1 < B) (h4 : g2 < B) : QF w bp g cap ys g1 g2 low m high B W' :=
  ⟨(hb.cell (p := ⟨bp, 0, none⟩) h1).trans h.c, h.ry.below' hb h2, h.r1.below' hb h3, h.r2.below' hb h4, h.b.trans (hb.mono h0), Nat.le_trans h.s hb.size⟩
theorem QF.drewN {w : World} {bp g cap : Nat} {ys : List C} {g1 g2 : Nat} {low m high : C} {B : Nat} {W : World} (h : QF w bp g cap ys g1 g2 low m high B W) (n : Nat) : QF w bp g cap ys g1 g2 low m high B (W.drewN n) :=
  ⟨h.c, h.ry, h.r1, h.r2, below_drewN h.b n, h.s⟩
theorem QF.drew {w : World} {bp g cap : Nat} {ys : List C} {g1 g2 : Nat} {low m high : C} {B : Nat} {W : World} (h : QF w bp g cap ys g1 g2 low m high B W) : QF w bp g cap ys g1 g2 low m high B W.drew :=
  ⟨h.c, h.ry, h.r1, h.r2, ⟨h.b.os, h.b.tape, h.b.output, h.b.size, h.b.block⟩, h.s⟩

set_option maxRecDepth 100000 in
set_option maxHeartbeats 4000000 in
theorem spec_l05Four (bp g cap : Nat) (ys : List C) (low high md : C) (m : Nat) (ns : Nat → Int) (w : World) (hp : w.cell? ⟨bp, 0, none⟩ = some (.slice (some ⟨g, 0, none⟩) ys.length cap)) (hr : Rd w g ys) (hv : VP ys) (hm : 4 ≤ m) (hm2 : m ≤ 64) (h : Four ys low high md m ns) :
    Calls Try.prog 35 #[.pointer (some ⟨bp, 0, none⟩), cv low, cv high, .int .i64 m] w (GivesI (allTo (fun i => okN (ns i) ys.length) 4) (uptoI ns 4) w) := by
  obtain ⟨hmid, hbx⟩ := h
  have HBX := Lib.hid hbx
  have HV := Lib.hid hv
  have HR := Lib.hid hr
  have HPP := Lib.hid hp
  clear hv hr hbx hp
  go_enter Try.func35, Try.ntmps35
  go_wp2_with (go_at_call 38; refine (spec_l05Quarters low high md _ hmid).mono ?_; rintro e w1 ⟨g1, g2, rfl, hr1, hr2, hb1⟩)
  have HO0 : Hid (OwnI (w1.alloc (.cells #[] 2)) w1.heap.size (.slice (some ⟨w1.heap.size, 0, none⟩) 0 0) []) := Lib.hid (OwnI.made w1 w1.heap.size (Nat.le_refl _))
  have HQ0 : Hid (QF w bp g cap ys g1 g2 low md high w1.heap.size (w1.alloc (.cells #[] 2))) :=
    Lib.hid ⟨kca (kc hb1 HPP.out) _, (HR.out.below hb1).alloc _, hr1.alloc _, hr2.alloc _, below_trans hb1 ((Below.refl _ _).alloc (Nat.le_refl _) _), by simp⟩
  obtain ⟨B, hB⟩ : ∃ B, B = w1.heap.size := ⟨_, rfl⟩
  have HSTEP : Hid (∀ {W W' : World}, QF w bp g cap ys g1 g2 low md high B W → Below B W W' → QF w bp g cap ys g1 g2 low md high B W') :=
    Lib.hid (fun h hb => h.step' hb (by rw [hB]; exact hb1.size) (by rw [hB]; exact World.block_lt_of_cell? w1 _ (kc hb1 HPP.out)) (by rw [hB]; exact (HR.out.below hb1).1) (by rw [hB]; exact hr1.1) (by rw [hB]; exact hr2.1))
  have HWB : Hid (w.heap.size ≤ B) := Lib.hid (by rw [hB]; exact hb1.size)
  generalize w1.alloc (.cells #[] 2) = w2 at HO0 HQ0 ⊢
  rw [← hB] at HO0 HQ0 ⊢
  clear hB hr1 hr2 hb1
  go_loopg [12, 25] (4 : Nat) (fun gk vs i wr => ∃ k : Nat, k ≤ 4 ∧ gk = 4 - k ∧ i = .int .i64 k ∧ Hid (allTo (fun i => okN (ns i) ys.length) k = true) ∧ Hid (OwnI wr B vs (uptoI ns k)) ∧ Hid (QF w bp g cap ys g1 g2 low md high B wr))
  case atStart => exact ⟨0, by omega, by omega, rfl, Lib.hid rfl, HO0, HQ0⟩
  case round =>
    obtain ⟨k, hk, hgk, rfl, HA, HO, HQ⟩ := hrel
    obtain ⟨wo, rfl⟩ : ∃ wo : World, wo = wr := ⟨_, rfl⟩
    have HGK := Lib.hid hgk
    clear hgk
    by_cases hlt : k < 4
    · have hdec : decide ((k : Int) < 4) = true := by simp; omega
      have hk0 : (0 : Int) ≤ k := by omega
      have hk4 : (k : Int) < 4 := by omega
      obtain ⟨s, f, dd, hb, hf, hx⟩ := HBX.out k hlt
      have HBk := Lib.hid hb
      have HFk := Lib.hid hf
      have HXk := Lib.hid hx
      clear hb hf hx
      have cc1 : wo.cell? ⟨g1, k, none⟩ = some (cv (qlo low md k)) := by have := HQ.out.r1.2 k (by simp [lows]; omega); rwa [lows_at low md hlt] at this
      have cc2 : wo.cell? ⟨g2, k, none⟩ = some (cv (qhi md high k)) := by have := HQ.out.r2.2 k (by simp [highs]; omega); rwa [highs_at md high hlt] at this
      go_upto_region 6 with (fail)
      go_quiet ((go_at_call 60; exact quietL0 (spec_l05Box (qlo low md k) (qhi md high k) dd _ HXk.out)))
      have HQB := Lib.hid (HQ.out.drewN nq)
      have HOB := Lib.hid (HO.out.drewN (n := nq))
      have cc3 : (wo.drewN nq).cell? ⟨g1, k, none⟩ = some (cv (qlo low md k)) := cc1
      have cc4 : (wo.drewN nq).cell? ⟨g2, k, none⟩ = some (cv (qhi md high k)) := cc2
      generalize wo.drewN nq = wB at HQB HOB cc3 cc4 ⊢
      clear cc1 cc2 HQ HO
      have Y1 := Lib.hid (fun W (h : QF w bp g cap ys g1 g2 low md high B W) => spec_l05InBox bp g cap ys (qlo low md k) (qhi md high k) m s f (ns k) W h.c h.ry HV.out hm hm2 HBk.out HFk.out)
      go_upto_region 8 with (fail)
      go_cut [14, 15] (fun a b wx => a = .int .i64 (ns k) ∧ b = .bool (okN (ns k) ys.length) ∧ Below wB.heap.size wB wx)
      case first =>
        go_region_law (first
          | (go_simp; go_at_call 61; (with_reducible refine (Y1.out _ HQB.out.drew).mono ?_); rintro e wC ⟨rfl, hbC⟩; have HBC : Hid (Below wB.heap.size wB wC) := Lib.hid ⟨hbC.os, hbC.tape, hbC.output, hbC.size, hbC.block⟩; clear hbC))
        all_goals
          (try go_simp)
          go_wp2_with fail
          go_meet
          case rel => exact ⟨rfl, rfl, HBC.out⟩
      case rest =>
        obtain ⟨rfl, rfl, hbc⟩ := hcut
        have HQC := Lib.hid (HQB.out.step hbc)
        have HOC := Lib.hid (HOB.out.below hbc)
        clear hbc cc3 cc4 HQB HOB
        cases hbk : okN (ns k) ys.length with
        | false =>
          have HFA : Hid (allTo (fun i => okN (ns i) ys.length) 4 = false) := Lib.hid (allTo_false (bs := fun i => okN (ns i) ys.length) hbk 4 hlt)
          clear hbk
          go_wp2_with fail
          go_ret2
          exact givesI_false HFA.out HQC.out.b
        | true =>
          have HT : Hid (allTo (fun i => okN (ns i) ys.length) (k + 1) = true) := Lib.hid (by show (allTo (fun i => okN (ns i) ys.length) k && okN (ns k) ys.length) = true; rw [HA.out, hbk]; rfl)
          clear hbk
          go_wp2_with (at_builtin; refine appendI rfl (.tmp 54) (.tmp 56) rfl B _ (uptoI ns k) rfl HOC.out (ns k) rfl (by rw [uptoI_length]; omega) HQC.out.s ?_; intro v' w7 hown7 hb7 hs7; have HO7 : Hid (OwnI w7 B v' (uptoI ns (k + 1))) := Lib.hid (by rw [uptoI_succ]; exact hown7); have HQ7 := Lib.hid (HSTEP.out HQC.out hb7); clear hown7 hb7 hs7)
          go_roundg (4 - (k + 1))
          case measure => have := HGK.out; omega
          case rel => exact ⟨k + 1, by omega, rfl, by go_num, HT, HO7, HQ7⟩
    · have hs4 : k = 4 := by omega
      subst hs4
      obtain ⟨gv, capv, rfl, hgv, hrv, hcv⟩ := HO.out.rd
      go_wp2_with fail
      go_ret2
      exact givesI_true HA.out HQ.out.b (Nat.le_trans HWB.out hgv) hrv

theorem spec_FourBoxes (g cap : Nat) (ys : List C) (low high md d : C) (m : Nat) (ns : Nat → Int) (w : World) (hr : Rd w g ys) (hv : VP ys) (h2 : 2 ≤ ys.length) (hm : 4 ≤ m) (hm2 : m ≤ 64) (hbox : IsBox low high d) (h : Four ys low high md m ns) :
    Calls Try.prog 11 #[.agg #[.slice (some ⟨g, 0, none⟩) ys.length cap], cv low, cv high, .int .i64 m] w (GivesI (allTo (fun i => okN (ns i) ys.length) 4) (uptoI ns 4) w) := by
  have hc : (w.alloc (.cells #[.slice (some ⟨g, 0, none⟩) ys.length cap] 28)).cell? ⟨w.heap.size, 0, none⟩ = some (.slice (some ⟨g, 0, none⟩) ys.length cap) := by rw [cell_of_row _ _ _ _ _ _ (heap_alloc_new w _)]; rfl
  have HR := Lib.hid hr
  have HV := Lib.hid hv
  clear hr hv
  cases hA : allTo (fun i => okN (ns i) ys.length) 4 with
  | true =>
    go_enter Try.func11, Try.ntmps11
    go_wp2_with (first
      | (go_at_call 34; refine (spec_l05Boxed w.heap.size g cap ys low high d m _ hc (HR.out.alloc _) HV.out h2 hbox hm hm2).mono ?_; rintro e w' ⟨rfl, rfl⟩)
      | (go_at_call 35; refine (spec_l05Four w.heap.size g cap ys low high md m ns _ hc (HR.out.alloc _) HV.out hm hm2 h).mono ?_; rintro e w1 ⟨hb1, ht, -⟩; obtain ⟨gv, capv, rfl, hgv, hrv⟩ := ht hA))
    go_ret2
    exact givesI_true rfl (below_alloc hb1) (Nat.le_trans (by simp) hgv) hrv
  | false =>
    go_enter Try.func11, Try.ntmps11
    go_wp2_with (first
      | (go_at_call 34; refine (spec_l05Boxed w.heap.size g cap ys low high d m _ hc (HR.out.alloc _) HV.out h2 hbox hm hm2).mono ?_; rintro e w' ⟨rfl, rfl⟩)
      | (go_at_call 35; refine (spec_l05Four w.heap.size g cap ys low high md m ns _ hc (HR.out.alloc _) HV.out hm hm2 h).mono ?_; rintro e w1 ⟨hb1, -, hf⟩; obtain rfl := hf hA))
    go_ret2
    exact givesI_false rfl (below_alloc hb1)
end Go.Proofs.Ytlhdgbiaiacpfaa
