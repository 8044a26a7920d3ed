/- The program's division by the variable less a number. No condition but that the operations are valid and finite. -/
import Derived.Test.YtlhdgbiaiacpfaaGreatW21
import Derived.Deep.RegionLaw
namespace Go.Proofs.YtlhdgbiaiacpfaaGreat
open Go.RowKit

@[go_sem] theorem cells_match_cv (z : C) : Value.cells.match_1 (fun _ => Array Value) (cv z) (fun cs => cs) (fun v => #[v]) = #[cv z] := rfl
/-- What the division leaves. -/
def GivesD (qs : List C) (z : C) (w : World) (e : Ending) (w' : World) : Prop :=
  ∃ g1 c1 g2 c2, e = .returned (.tuple #[.agg #[.slice (some ⟨g1, 0, none⟩) qs.length c1], .agg #[.slice (some ⟨g2, 0, none⟩) 1 c2], .bool true]) ∧ w.heap.size ≤ g1 ∧ w.heap.size ≤ g2 ∧ Rd w' g1 qs ∧ Rd w' g2 [z] ∧ Below w.heap.size w w' ∧ qs.length ≤ c1

/-- The call's frame: two boxes and two results' cells. -/
structure Fr (n0 : Nat) (A B : Value) (W : World) : Prop where
  cA : W.cell? ⟨n0, 0, none⟩ = some A
  cB : W.cell? ⟨n0 + 1, 0, none⟩ = some B
  c2 : W.cell? ⟨n0 + 2, 0, none⟩ = some (.slice none 0 0)
  c3 : W.cell? ⟨n0 + 3, 0, none⟩ = some (.slice none 0 0)
  f2 : W.frozen? ⟨n0 + 2, 0, none⟩ = false
  f3 : W.frozen? ⟨n0 + 3, 0, none⟩ = false
  sz : n0 + 4 ≤ W.heap.size
theorem Fr.below {n0 : Nat} {A B : Value} {W W' : World} (h : Fr n0 A B W) (hb : Below (n0 + 4) W W') : Fr n0 A B W' :=
  ⟨(hb.cell (p := ⟨n0, 0, none⟩) (by simp)).trans h.cA, (hb.cell (p := ⟨n0 + 1, 0, none⟩) (by simp)).trans h.cB, (hb.cell (p := ⟨n0 + 2, 0, none⟩) (by simp)).trans h.c2, (hb.cell (p := ⟨n0 + 3, 0, none⟩) (by simp)).trans h.c3,
   (hb.frozen (p := ⟨n0 + 2, 0, none⟩) (by simp)).trans h.f2, (hb.frozen (p := ⟨n0 + 3, 0, none⟩) (by simp)).trans h.f3, Nat.le_trans h.sz hb.size⟩
theorem Fr.below' {n0 : Nat} {A B : Value} {W W' : World} (h : Fr n0 A B W) (hb : Below W.heap.size W W') : Fr n0 A B W' := h.below (hb.mono h.sz)
theorem Fr.made (w : World) (A B : Value) : Fr w.heap.size A B ((((w.alloc (.cells #[A] 28)).alloc (.cells #[B] 28)).alloc (.cells #[.slice none 0 0] 28)).alloc (.cells #[.slice none 0 0] 28)) := by
  have e1 : (w.alloc (.cells #[A] 28)).heap.size = w.heap.size + 1 := by simp
  have e2 : ((w.alloc (.cells #[A] 28)).alloc (.cells #[B] 28)).heap.size = w.heap.size + 2 := by simp
  have e3 : (((w.alloc (.cells #[A] 28)).alloc (.cells #[B] 28)).alloc (.cells #[.slice none 0 0] 28)).heap.size = w.heap.size + 3 := by simp
  refine ⟨?_, ?_, ?_, ?_, ?_, ?_, by simp <;> omega⟩
  · rw [World.cell?_alloc_lt _ _ _ (by simp <;> omega), World.cell?_alloc_lt _ _ _ (by simp <;> omega), World.cell?_alloc_lt _ _ _ (by simp <;> omega), new_cell]
  · rw [World.cell?_alloc_lt _ _ _ (by simp <;> omega), World.cell?_alloc_lt _ _ _ (by simp <;> omega), ← e1, new_cell]
  · rw [World.cell?_alloc_lt _ _ _ (by simp), ← e2, new_cell]
  · rw [← e3, new_cell]
  · go_simp
  · go_simp

set_option maxRecDepth 100000 in
set_option maxHeartbeats 2000000 in
theorem impl_DivPolys (g cap gb capb m : Nat) (a bs : List C) (w : World) (rs qs : List C) (hm : a.length = m + 1) (hm1 : 1 ≤ m) (hm2 : m ≤ 16) (hb2 : bs.length = 2) (hr : Rd w g a) (hrb : Rd w gb bs)
    (hv : VP a) (hvb : VP bs) (h : divO bs a m m = some (rs, qs)) (hvq : VP qs) (hvr : VP [at_ rs 0]) :
    Calls Tryz.prog 61 #[.agg #[.slice (some ⟨g, 0, none⟩) (m + 1) cap], .agg #[.slice (some ⟨gb, 0, none⟩) 2 capb]] w (GivesD qs (at_ rs 0) w) := by
  have HR := Lib.hid hr
  have HRB := Lib.hid hrb
  have HV := Lib.hid hv
  have HVB := Lib.hid hvb
  have HVQ := Lib.hid hvq
  have HVR := Lib.hid hvr
  have H := Lib.hid h
  have HM := Lib.hid hm
  have HBL := Lib.hid hb2
  clear hr hrb hv hvb hvq hvr h hm hb2
  have Z1 := Lib.hid (fun W hw => by have := impl_ValidPoly g cap a W hw HV.out; rw [HM.out] at this; exact this)
  have Z2 := Lib.hid (fun W hw => by have := impl_ValidPoly gb capb bs W hw HVB.out; rw [HBL.out] at this; exact this)
  have Z3 := Lib.hid (fun W => by have := impl_isZero2 gb capb bs W (by rw [HBL.out]; omega); rw [HBL.out] at this; exact this)
  have Z4 := Lib.hid (fun W hw => by have := slices_Clone g cap a W (by rw [HM.out]; omega) (by rw [HM.out]; omega) hw; rw [HM.out] at this; exact this)
  have F4 := Fr.made w (.slice (some ⟨g, 0, none⟩) (m + 1) cap) (.slice (some ⟨gb, 0, none⟩) 2 capb)
  have B4 : Below w.heap.size w ((((w.alloc (.cells #[.slice (some ⟨g, 0, none⟩) (m + 1) cap] 28)).alloc (.cells #[.slice (some ⟨gb, 0, none⟩) 2 capb] 28)).alloc (.cells #[.slice none 0 0] 28)).alloc (.cells #[.slice none 0 0] 28)) :=
    ((((Below.refl _ _).alloc (Nat.le_refl _) _).alloc (by simp) _).alloc (by simp; omega) _).alloc (by simp; omega) _
  go_enter Tryz.func61, Tryz.ntmps61
  go_upto_region 1 with (fail)
  generalize ((((w.alloc (.cells #[.slice (some ⟨g, 0, none⟩) (m + 1) cap] 28)).alloc (.cells #[.slice (some ⟨gb, 0, none⟩) 2 capb] 28)).alloc (.cells #[.slice none 0 0] 28)).alloc (.cells #[.slice none 0 0] 28)) = w4 at F4 B4 ⊢
  have HB4 := Lib.hid B4
  clear B4
  have cA := F4.cA
  have cB := F4.cB
  have RA := Lib.hid (HR.out.below HB4.out)
  have RB := Lib.hid (HRB.out.below HB4.out)
  go_upto_region 7 with (first
    | (go_at_call 73; (with_reducible refine (Z1.out _ RA.out).mono ?_); rintro e w1 ⟨rfl, hb1⟩; have F1 := F4.below' hb1; have cA1 := F1.cA; have cB1 := F1.cB; have RA1 := Lib.hid (RA.out.below hb1); have RB1 := Lib.hid (RB.out.below hb1); have HB1 := Lib.hid (below_trans HB4.out hb1); clear hb1)
    | (go_at_call 73; (with_reducible refine (Z2.out _ RB1.out).mono ?_); rintro e w2 ⟨rfl, hb2⟩; have F2 := F1.below' hb2; have cA2 := F2.cA; have cB2 := F2.cB; have RA2 := Lib.hid (RA1.out.below hb2); have RB2 := Lib.hid (RB1.out.below hb2); have HB2 := Lib.hid (below_trans HB1.out hb2); clear hb2)
    | (go_at_call 117; (with_reducible refine (Z3.out _).mono ?_); rintro e w3 ⟨rfl, hb3⟩; have F3 := F2.below' hb3; have cA3 := F3.cA; have cB3 := F3.cB; have RA3 := Lib.hid (RA2.out.below hb3); have RB3 := Lib.hid (RB2.out.below hb3); have HB3 := Lib.hid (below_trans HB2.out hb3); clear hb3)
    | (go_at_call 88; (with_reducible refine (Z4.out _ RA3.out).mono ?_); rintro e w5 ⟨v, rfl, hown, hb5⟩; obtain ⟨gr, capr, rfl, hgr, hwr, hcr⟩ := hown.wr; rw [HM.out] at hcr ⊢; have F5 := F3.below' hb5; have cA5 := F5.cA; have cB5 := F5.cB; have RB5 := Lib.hid (RB3.out.below hb5); have HWR := Lib.hid hwr; have HB5 := Lib.hid (below_trans HB3.out hb5); clear hb5 hown hwr))
  have ZM := fun W => run_makeC W m (by omega)
  have hw0 : wrap64 (m : Int) = m := by unfold wrap64; omega
  have hw1 : wrap64 ((m : Int) - 1) = (m : Int) - 1 := by unfold wrap64; omega
  have HM1 := Lib.hid hm1
  have HM2 := Lib.hid hm2
  have HGR := Lib.hid hgr
  have HCR := Lib.hid hcr
  rename_i hxx _ _
  clear hxx hm1 hm2 hgr hcr cA cA1 cA2 cA3 cB cB1 cB2 cB3
  go_wp2
  have WQ := Lib.hid (Wr.made w5 m (by have := HM2.out; omega))
  have WR6 := Lib.hid (HWR.out.alloc (.cells (madeCells #[.complex .f32 0 0] m) 36))
  have RB6 := Lib.hid (RB5.out.alloc (.cells (madeCells #[.complex .f32 0 0] m) 36))
  have F6 := Lib.hid (F5.below' ((Below.refl _ _).alloc (Nat.le_refl _) (.cells (madeCells #[.complex .f32 0 0] m) 36)))
  have HB6 := Lib.hid (below_trans HB5.out ((Below.refl _ _).alloc (Nat.le_refl _) (.cells (madeCells #[.complex .f32 0 0] m) 36)))
  rw [hw1]
  have hgq : gr ≠ w5.heap.size := Nat.ne_of_lt HWR.out.1.1
  have hgb1 : gb ≠ gr := by have h1 := HRB.out.1; have h2 := HB3.out.size; have h3 := HGR.out; omega
  have hgb2 : gb ≠ w5.heap.size := by have h1 := HRB.out.1; have h2 := HB5.out.size; omega
  have hgr0 := F3.sz
  have hgr1 : w.heap.size + 4 ≤ gr := by have h3 := HGR.out; omega
  have hgq1 : w.heap.size + 4 ≤ w5.heap.size := F5.sz
  generalize w5.alloc (.cells (madeCells #[.complex .f32 0 0] m) 36) = w6 at WQ WR6 RB6 F6 HB6 ⊢
  generalize w5.heap.size = gq at *
  have HN1 := Lib.hid hgq
  have HN2 := Lib.hid hgb1
  have HN3 := Lib.hid hgb2
  have HN4 := Lib.hid hgr1
  have HN5 := Lib.hid hgq1
  clear hgq hgb1 hgb2 hgr0 hgr1 hgq1 hw0 hw1 ZM F4 F1 F2 F3 F5
  go_loopw [10, 11, 12] (fun i _ _ wr => ∃ (j : Nat) (s : List C × List C), j ≤ m ∧ Hid (divO bs a m j = some s) ∧ i = .int .i64 ((m : Int) - 1 - j) ∧ Hid (Wr wr gr s.1) ∧ Hid (Wr wr gq s.2) ∧ Hid (Rd wr gb bs) ∧ Hid (Fr w.heap.size (.slice (some ⟨g, 0, none⟩) (m + 1) cap) (.slice (some ⟨gb, 0, none⟩) 2 capb) wr) ∧ Hid (Below w.heap.size w wr)) (fun i _ _ _ => (intOf i + 1).toNat)
  case atStart => exact ⟨0, _, Nat.zero_le _, Lib.hid rfl, by simp, WR6, WQ, RB6, F6, HB6⟩
  case round =>
    obtain ⟨j, s, hj, hs, ei, hwr, hwq, hrb, hfr, hbw⟩ := hrel
    obtain ⟨wo, rfl⟩ : ∃ wo : World, wo = wr := ⟨_, rfl⟩
    by_cases hlt : j < m
    · obtain ⟨q, r2, d1, d2, d3⟩ := divO_succ H.out hlt hs.out
      obtain ⟨kk, hkk⟩ : ∃ kk : Nat, m - 1 - j = kk := ⟨_, rfl⟩
      rw [show (m : Int) - 1 - j = (kk : Int) by omega] at ei
      rw [hkk] at d1 d2 d3
      subst ei
      have D1 := Lib.hid d1
      have D2 := Lib.hid d2
      have D3 := Lib.hid d3
      have HKK := Lib.hid hkk
      have cB := hfr.out.cB
      have l1 := (divO_length hs.out).1
      have l2 := (divO_length hs.out).2
      rw [HM.out] at l1
      have hc1 := hwr.out.1.2 (kk + 1) (by omega)
      have hc2 := hrb.out.2 1 (by rw [HBL.out]; omega)
      have hc3 := hwq.out.1.2 kk (by omega)
      have hf3 := hwq.out.2 kk (by omega)
      have hkm : kk < m := by omega
      have hk16 : kk < 16 := by have := HM2.out; omega
      have L1 := Lib.hid l1
      have L2 := Lib.hid l2
      clear d1 d2 d3 hkk l1 l2 hj
      have hwk : IntKind.i64.wrap ((kk : Int) + 1) = (kk : Int) + 1 := IntWalk.i64_in _ (by omega)
      have htk : ((kk : Int) + 1).toNat = kk + 1 := by omega
      have h0k : (0 : Int) ≤ (kk : Int) + 1 := by omega
      have D1' := Lib.hid (impl_QuotientOf _ _ q D1.out)
      go_upto_region 11 with (fail)
      go_region_law ((go_simp; go_at_call 48; (with_reducible refine (D1'.out _).mono ?_); rintro e w' ⟨rfl, rfl⟩))
      all_goals
        have WQ1 := Lib.hid (hwq.out.set (by rw [L2.out]; exact hkm) q).drew
        have WR1 := Lib.hid (hwr.out.other (p := ⟨gq, kk, none⟩) HN1.out (cv q)).drew
        have RB1 := Lib.hid (hrb.out.setCell (p := ⟨gq, kk, none⟩) HN3.out (cv q)).drew
        have F1 := Lib.hid (hfr.out.below ((Below.refl _ _).setCell (p := ⟨gq, kk, none⟩) HN5.out (cv q)).drew)
        have BB1 := Lib.hid (hbw.out.setCell (p := ⟨gq, kk, none⟩) (by have := HN5.out; show w.heap.size ≤ gq; omega) (cv q)).drew
        generalize (wo.setCell ⟨gq, kk, none⟩ (cv q)).drew = wp at WQ1 WR1 RB1 F1 BB1 ⊢
        have cB1 := F1.out.cB
        clear cB hc1 hc2 hc3 hf3
        go_wp2
        go_loopw [11, 12, 78] (fun _ _ i wr => ∃ (t : Nat) (r : List C), t ≤ 2 ∧ Hid (inO bs q kk s.1 t = some r) ∧ i = .int .i64 t ∧ Hid (Wr wr gr r) ∧ Hid (Wr wr gq (s.2.set kk q)) ∧ Hid (Rd wr gb bs) ∧ Hid (Fr w.heap.size (.slice (some ⟨g, 0, none⟩) (m + 1) cap) (.slice (some ⟨gb, 0, none⟩) 2 capb) wr) ∧ Hid (Below w.heap.size w wr)) (fun _ _ i _ => 2 - (intOf i).toNat)
        case atStart => exact ⟨0, s.1, by omega, Lib.hid rfl, rfl, WR1, WQ1, RB1, F1, BB1⟩
        case round =>
          obtain ⟨t, r, ht, hin, rfl, hwr2, hwq2, hrb2, hfr2, hbw2⟩ := hrel
          obtain ⟨wi, rfl⟩ : ∃ wi : World, wi = wr := ⟨_, rfl⟩
          by_cases hlt2 : t < 2
          · obtain ⟨mt, xt, i1, i2, i3⟩ := inO_succ D2.out hlt2 hin.out
            have lr := inO_length hin.out
            rw [L1.out] at lr
            have I1 := Lib.hid (impl_MulComplex _ _ mt i1)
            have I2 := Lib.hid (impl_minus _ _ xt i2)
            have I3 := Lib.hid i3
            have hb1 := hrb2.out.2 t (by rw [HBL.out]; exact hlt2)
            have hb2 := hwq2.out.1.2 kk (by rw [List.length_set, L2.out]; exact hkm)
            have hb3 := hwr2.out.1.2 (kk + t) (by omega)
            have hf3 := hwr2.out.2 (kk + t) (by omega)
            rw [at_set (by rw [L2.out]; exact hkm), if_pos rfl] at hb2
            have hwt : IntKind.i64.wrap ((kk : Int) + t) = (kk : Int) + t := IntWalk.i64_in _ (by omega)
            have htt : ((kk : Int) + t).toNat = kk + t := by omega
            have h0t : (0 : Int) ≤ (kk : Int) + t := by omega
            have h1t : (kk : Int) + t < (m : Int) + 1 := by omega
            have LR := Lib.hid lr
            have cB2 := hfr2.out.cB
            clear i1 i2 i3 lr hin ht
            go_upto_region 15 with (fail)
            go_region_law (first
              | (go_simp; go_at_call 54; (with_reducible refine (I1.out _).mono ?_); rintro e w' ⟨rfl, rfl⟩)
              | (go_simp; go_at_call 50; (with_reducible refine (I2.out _).mono ?_); rintro e w' ⟨rfl, rfl⟩))
            all_goals
              have WR3 := Lib.hid (hwr2.out.set (k := kk + t) (by have := LR.out; omega) xt).drew
              have WQ3 := Lib.hid (hwq2.out.other (p := ⟨gr, kk + t, none⟩) (Ne.symm HN1.out) (cv xt)).drew
              have RB3 := Lib.hid (hrb2.out.setCell (p := ⟨gr, kk + t, none⟩) HN2.out (cv xt)).drew
              have F3 := Lib.hid (hfr2.out.below ((Below.refl _ _).setCell (p := ⟨gr, kk + t, none⟩) HN4.out (cv xt)).drew)
              have BB3 := Lib.hid (hbw2.out.setCell (p := ⟨gr, kk + t, none⟩) (by have := HN4.out; show w.heap.size ≤ gr; omega) (cv xt)).drew
              generalize (wi.setCell ⟨gr, kk + t, none⟩ (cv xt)).drew = wf at WR3 WQ3 RB3 F3 BB3 ⊢
              clear hb1 hb2 hb3 hf3 hwt htt h0t h1t cB2
              go_wp2
              go_roundw
              case rel => exact ⟨t + 1, r.set (kk + t) xt, by omega, I3, by go_num, WR3, WQ3, RB3, F3, BB3⟩
              case measure => simp [intOf]; omega
          · have e : t = 2 := by omega
            subst e
            have e2 : r = r2 := Option.some.inj (by rw [← hin.out]; exact D2.out)
            subst e2
            clear hin
            go_wp2
            go_roundw
            case rel => exact ⟨j + 1, (r, s.2.set kk q), by omega, D3, by have := HKK.out; go_num, hwr2, hwq2, hrb2, hfr2, hbw2⟩
            case measure => simp [intOf]
    · have e : j = m := by omega
      subst e
      have e2 : s = (rs, qs) := Option.some.inj (by rw [← hs.out]; exact H.out)
      subst e2
      have lq := (divO_length hs.out).2
      have lr := (divO_length hs.out).1
      rw [HM.out] at lr
      simp only at lq lr
      have hd : decide ((0 : Int) ≤ (j : Int) - 1 - j) = false := by simp; omega
      have hr1 : Rd wo gr [at_ rs 0] := ⟨hwr.out.1.1, fun k hk => by
        simp at hk
        subst hk
        have := hwr.out.1.2 0 (by simp only; omega)
        simpa [at_, List.getD] using this⟩
      have HQ := Lib.hid (hwq.out.1)
      have HR1 := Lib.hid hr1
      have LQ := Lib.hid lq
      have HD := Lib.hid hd
      rw [show (j : Int) - 1 - j = -1 by omega] at ei
      subst ei
      have hcap1 : 1 ≤ capr := by have := HCR.out; omega
      have hcap2 : ((capr : Int) < 1) = False := by simp; omega
      have hcap3 : (capr = 0) = False := by simp; omega
      have ZP1 := Lib.hid (fun W hw => by have := impl_polyOf gq j qs W (by rw [LQ.out]; exact Nat.le_refl _) hw HVQ.out; rw [LQ.out] at this; exact this)
      have ZP2 := Lib.hid (fun W hw => by have := impl_polyOf gr capr [at_ rs 0] W (by simpa using hcap1) hw HVR.out; rw [List.length_singleton] at this; exact this)
      clear hwr hwq hrb hs lr hr1 lq hd
      go_upto_region 24 with (first
        | (go_at_call 71; ((with_reducible refine (ZP1.out _ HQ.out).mono ?_); rintro e w7 ⟨rfl, hb7⟩; have HR7 := Lib.hid ((HR1.out.below hb7).alloc (.cells #[.slice (some ⟨gq, 0, none⟩) j j] 28)); have HQ7 := Lib.hid ((HQ.out.below hb7).alloc (.cells #[.slice (some ⟨gq, 0, none⟩) j j] 28)); have hb7' := (hb7.alloc hb7.size (.cells #[.slice (some ⟨gq, 0, none⟩) j j] 28)); have F7 := Lib.hid (hfr.out.below' hb7'); have B7 := Lib.hid (below_trans hbw.out hb7'); have C7 := new_cell w7 (.slice (some ⟨gq, 0, none⟩) j j) 28; have S7 : w.heap.size + 4 ≤ w7.heap.size := Nat.le_trans hfr.out.sz hb7.size; clear hb7 hb7'))
        | (go_at_call 71; (with_reducible refine (ZP2.out _ HR7.out).mono ?_); go_loud (rintro e w8 ⟨rfl, hb8⟩; have C8 := kca (kc hb8 C7) (.cells #[.slice (some ⟨gr, 0, none⟩) 1 1] 28); have D8 := new_cell w8 (.slice (some ⟨gr, 0, none⟩) 1 1) 28; have hb8' := (hb8.alloc hb8.size (.cells #[.slice (some ⟨gr, 0, none⟩) 1 1] 28)); have HR8 := Lib.hid (HR7.out.below hb8'); have HQ8 := Lib.hid (HQ7.out.below hb8'); have F8 := Lib.hid (F7.out.below' hb8'); have B8 := Lib.hid (below_trans B7.out hb8'); have S8 : w7.heap.size < w8.heap.size := by (have := hb8.size; simp at this; omega))))
      generalize w8.alloc (.cells #[.slice (some ⟨gr, 0, none⟩) 1 1] 28) = w9 at C8 D8 HR8 HQ8 F8 B8 ⊢
      have f2 := F8.out.f2
      have f3 := F8.out.f3
      have c2 := F8.out.c2
      have c3 := F8.out.c3
      go_region
      go_wp2
      have N4 := HN4.out
      have N5 := HN5.out
      have e4 : ((w9.setCell ⟨w.heap.size + 1 + 1, 0, none⟩ (.slice (some ⟨gq, 0, none⟩) j j)).setCell ⟨w.heap.size + 1 + 1 + 1, 0, none⟩ (.slice (some ⟨gr, 0, none⟩) 1 1)).cell? ⟨w.heap.size + 1 + 1, 0, none⟩ = some (.slice (some ⟨gq, 0, none⟩) j j) := by go_simp
      have e5 : ((w9.setCell ⟨w.heap.size + 1 + 1, 0, none⟩ (.slice (some ⟨gq, 0, none⟩) j j)).setCell ⟨w.heap.size + 1 + 1 + 1, 0, none⟩ (.slice (some ⟨gr, 0, none⟩) 1 1)).cell? ⟨w.heap.size + 1 + 1 + 1, 0, none⟩ = some (.slice (some ⟨gr, 0, none⟩) 1 1) := by go_simp
      refine bodyPost_ret (v := .tuple #[.agg #[.slice (some ⟨gq, 0, none⟩) j j], .agg #[.slice (some ⟨gr, 0, none⟩) 1 1], .bool true]) (by simp [results, Tryz.results61, go_sem, e4, e5]) rfl ⟨gq, j, gr, 1, by rw [LQ.out], by omega, by omega, ?_, ?_, ?_, by rw [LQ.out]; exact Nat.le_refl _⟩
      · exact ((HQ8.out.setCell (p := ⟨w.heap.size + 1 + 1, 0, none⟩) (by show gq ≠ w.heap.size + 1 + 1; omega) _).setCell (p := ⟨w.heap.size + 1 + 1 + 1, 0, none⟩) (by show gq ≠ w.heap.size + 1 + 1 + 1; omega) _).drew
      · exact ((HR8.out.setCell (p := ⟨w.heap.size + 1 + 1, 0, none⟩) (by show gr ≠ w.heap.size + 1 + 1; omega) _).setCell (p := ⟨w.heap.size + 1 + 1 + 1, 0, none⟩) (by show gr ≠ w.heap.size + 1 + 1 + 1; omega) _).drew
      · exact ((B8.out.setCell (p := ⟨w.heap.size + 1 + 1, 0, none⟩) (by show w.heap.size ≤ w.heap.size + 1 + 1; omega) _).setCell (p := ⟨w.heap.size + 1 + 1 + 1, 0, none⟩) (by show w.heap.size ≤ w.heap.size + 1 + 1 + 1; omega) _).drew
end Go.Proofs.YtlhdgbiaiacpfaaGreat
