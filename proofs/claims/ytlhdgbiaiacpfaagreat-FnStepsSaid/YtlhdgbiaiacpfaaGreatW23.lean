/- The program's division by a root's factor. No condition but that the operations are valid and finite. -/
import Derived.Test.YtlhdgbiaiacpfaaGreatW22
import Derived.Deep.DeepCutAuto
import Derived.Deep.RegionWith
namespace Go.Proofs.YtlhdgbiaiacpfaaGreat
open Go.RowKit

def one : C := (1065353216, 0)
/-- What is left of a polynomial, and the rest. -/
def GivesL (qs : List C) (z : C) (w : World) (e : Ending) (w' : World) : Prop :=
  ∃ g1 c1, e = .returned (.tuple #[.agg #[.slice (some ⟨g1, 0, none⟩) qs.length c1], cv z, .bool true]) ∧ w.heap.size ≤ g1 ∧ Rd w' g1 qs ∧ Below w.heap.size w w' ∧ qs.length ≤ c1

theorem Rd.setCellB {w : World} {g b o : Nat} {xs : List C} (h : Rd w g xs) (hp : g ≠ b) (u : Value) : Rd (w.setCell ⟨b, o, none⟩ u) g xs := h.setCell hp u
theorem Below.setCellB {B b o : Nat} {w w' : World} (h : Below B w w') (hp : B ≤ b) (u : Value) : Below B w (w'.setCell ⟨b, o, none⟩ u) := h.setCell hp u
theorem two_rd {w : World} {n : Nat} (hn : n = w.heap.size) (x y : C) (T : TypeId) : Rd (w.alloc (.cells #[cv x, cv y] T)) n [x, y] := by
  subst hn
  refine ⟨by simp, fun k hk => ?_⟩
  simp at hk
  obtain rfl | rfl : k = 0 ∨ k = 1 := by omega
  · rw [cell_of_row _ _ _ _ _ _ (heap_alloc_new w _)]; rfl
  · rw [cell_of_row _ _ _ _ _ _ (heap_alloc_new w _)]; rfl
/-- The call's frame: a box and a result's cell. -/
structure Fq (n0 : Nat) (A : Value) (W : World) : Prop where
  cA : W.cell? ⟨n0, 0, none⟩ = some A
  c1 : W.cell? ⟨n0 + 1, 0, none⟩ = some (.slice none 0 0)
  f1 : W.frozen? ⟨n0 + 1, 0, none⟩ = false
  sz : n0 + 2 ≤ W.heap.size
theorem Fq.below {n0 : Nat} {A : Value} {W W' : World} (h : Fq n0 A W) (hb : Below (n0 + 2) W W') : Fq n0 A W' :=
  ⟨(hb.cell (p := ⟨n0, 0, none⟩) (by simp)).trans h.cA, (hb.cell (p := ⟨n0 + 1, 0, none⟩) (by simp)).trans h.c1, (hb.frozen (p := ⟨n0 + 1, 0, none⟩) (by simp)).trans h.f1, Nat.le_trans h.sz hb.size⟩
theorem Fq.made (w : World) (A : Value) : Fq w.heap.size A ((w.alloc (.cells #[A] 28)).alloc (.cells #[.slice none 0 0] 28)) := by
  have e1 : (w.alloc (.cells #[A] 28)).heap.size = w.heap.size + 1 := by simp
  refine ⟨?_, ?_, ?_, by simp⟩
  · rw [World.cell?_alloc_lt _ _ _ (by simp), new_cell]
  · rw [← e1, new_cell]
  · go_simp

set_option maxRecDepth 100000 in
set_option maxHeartbeats 0 in
theorem impl_LeaveRoot (g cap m : Nat) (a : List C) (z : C) (w : World) (rs qs : List C) (hm : a.length = m + 1) (hm1 : 1 ≤ m) (hm2 : m ≤ 16) (hr : Rd w g a)
    (hv : VP a) (hz : FinC z) (hvb : VP [(neg32 z.1, neg32 z.2), one]) (h : divO [(neg32 z.1, neg32 z.2), one] a m m = some (rs, qs)) (hvq : VP qs) (hvr : VP [at_ rs 0]) :
    Calls Tryz.prog 19 #[.agg #[.slice (some ⟨g, 0, none⟩) (m + 1) cap], cv z] w (GivesL qs (at_ rs 0) w) := by
  have HR := Lib.hid hr
  have HV := Lib.hid hv
  have HVB := Lib.hid hvb
  have HVQ := Lib.hid hvq
  have HVR := Lib.hid hvr
  have H := Lib.hid h
  have HM := Lib.hid hm
  have HM1 := Lib.hid hm1
  have HM2 := Lib.hid hm2
  clear hr hv hvb hvq hvr h hm hm1 hm2
  have Z1 := Lib.hid (fun W hw => by have := impl_isRooted g cap a W hw HV.out (by have := HM1.out; rw [HM.out]; omega); rw [HM.out] at this; exact this)
  have Z2 := Lib.hid (fun W gb capb hw hb => impl_DivPolys g cap gb capb m a _ W rs qs HM.out HM1.out HM2.out rfl hw hb HV.out HVB.out H.out HVQ.out HVR.out)
  have F2 := Fq.made w (.slice (some ⟨g, 0, none⟩) (m + 1) cap)
  have B2 : Below w.heap.size w ((w.alloc (.cells #[.slice (some ⟨g, 0, none⟩) (m + 1) cap] 28)).alloc (.cells #[.slice none 0 0] 28)) :=
    (((Below.refl _ _).alloc (Nat.le_refl _) _).alloc (by simp) _)
  go_enter Tryz.func19, Tryz.ntmps19
  go_upto_region 1 with (fail)
  generalize (w.alloc (.cells #[.slice (some ⟨g, 0, none⟩) (m + 1) cap] 28)).alloc (.cells #[.slice none 0 0] 28) = w2 at F2 B2 ⊢
  have HB2 := Lib.hid B2
  clear B2
  have cA := F2.cA
  have RA := Lib.hid (HR.out.below HB2.out)
  go_upto_region 3 with (first
    | (go_at_call 38; (with_reducible refine (Z1.out _ RA.out).mono ?_); rintro e w3 ⟨rfl, hb3⟩; have hb3' := hb3.alloc hb3.size (.cells #[cv z] 36); have RA3 := Lib.hid (RA.out.below hb3'); have F3 := Lib.hid (F2.below (hb3'.mono F2.sz)); have HB3 := Lib.hid (below_trans HB2.out hb3'); have S3 := Lib.hid hb3.size; clear hb3 hb3')
    | (go_at_call 42; refine (impl_allFinite w3.heap.size 1 [z] _ (by simp) (one_rd w3 z _) (one_fin hz)).mono ?_; rintro e w4 ⟨rfl, hb4⟩; have RA4 := Lib.hid (RA3.out.below hb4); have F4 := F3.out.below (hb4.mono (by have := S3.out; have := F2.sz; simp; omega)); have HB4 := Lib.hid (below_trans HB3.out hb4)))
  have cA4 := F4.cA
  clear cA hb4
  have F4' := Lib.hid F4
  have kw := F4.sz
  have hkca := fun (W : World) (o : Obj) (h : W.cell? ⟨w.heap.size, 0, none⟩ = some (.slice (some ⟨g, 0, none⟩) (m + 1) cap)) => kca h o
  have hkda := fun (W : World) (o o2 : Obj) (h : W.cell? ⟨w.heap.size, 0, none⟩ = some (.slice (some ⟨g, 0, none⟩) (m + 1) cap)) => kca (kca h o) o2
  have hkea := fun (W : World) (o o2 o3 : Obj) (h : W.cell? ⟨w.heap.size, 0, none⟩ = some (.slice (some ⟨g, 0, none⟩) (m + 1) cap)) => kca (kca (kca h o) o2) o3
  have hkc0 := fun (W : World) (o : Obj) (h : W.cell? ⟨w4.heap.size , 0, none⟩ = some (.slice none 0 0)) => kca h o
  have hkd0 := fun (W : World) (o o2 : Obj) (h : W.cell? ⟨w4.heap.size , 0, none⟩ = some (.slice none 0 0)) => kca (kca h o) o2
  have hke0 := fun (W : World) (o o2 o3 : Obj) (h : W.cell? ⟨w4.heap.size , 0, none⟩ = some (.slice none 0 0)) => kca (kca (kca h o) o2) o3
  have hkf0 := fun (W : World) (o : Obj) (h : W.cell? ⟨w4.heap.size , 0, none⟩ = some (.slice none 0 0)) (hf : W.frozen? ⟨w4.heap.size , 0, none⟩ = false) => kfa h hf o
  have hkg0 := fun (W : World) (o o2 : Obj) (h : W.cell? ⟨w4.heap.size , 0, none⟩ = some (.slice none 0 0)) (hf : W.frozen? ⟨w4.heap.size , 0, none⟩ = false) => kfa (kca h o) (kfa h hf o) o2
  have hkc1 := fun (W : World) (o : Obj) (h : W.cell? ⟨w4.heap.size + 1, 0, none⟩ = some (.slice none 0 0)) => kca h o
  have hkd1 := fun (W : World) (o o2 : Obj) (h : W.cell? ⟨w4.heap.size + 1, 0, none⟩ = some (.slice none 0 0)) => kca (kca h o) o2
  have hke1 := fun (W : World) (o o2 o3 : Obj) (h : W.cell? ⟨w4.heap.size + 1, 0, none⟩ = some (.slice none 0 0)) => kca (kca (kca h o) o2) o3
  have hkf1 := fun (W : World) (o : Obj) (h : W.cell? ⟨w4.heap.size + 1, 0, none⟩ = some (.slice none 0 0)) (hf : W.frozen? ⟨w4.heap.size + 1, 0, none⟩ = false) => kfa h hf o
  have hkg1 := fun (W : World) (o o2 : Obj) (h : W.cell? ⟨w4.heap.size + 1, 0, none⟩ = some (.slice none 0 0)) (hf : W.frozen? ⟨w4.heap.size + 1, 0, none⟩ = false) => kfa (kca h o) (kfa h hf o) o2
  have hkc2 := fun (W : World) (o : Obj) (h : W.cell? ⟨w4.heap.size + 2, 0, none⟩ = some (.slice none 0 0)) => kca h o
  have hkd2 := fun (W : World) (o o2 : Obj) (h : W.cell? ⟨w4.heap.size + 2, 0, none⟩ = some (.slice none 0 0)) => kca (kca h o) o2
  have hke2 := fun (W : World) (o o2 o3 : Obj) (h : W.cell? ⟨w4.heap.size + 2, 0, none⟩ = some (.slice none 0 0)) => kca (kca (kca h o) o2) o3
  have hkf2 := fun (W : World) (o : Obj) (h : W.cell? ⟨w4.heap.size + 2, 0, none⟩ = some (.slice none 0 0)) (hf : W.frozen? ⟨w4.heap.size + 2, 0, none⟩ = false) => kfa h hf o
  have hkg2 := fun (W : World) (o o2 : Obj) (h : W.cell? ⟨w4.heap.size + 2, 0, none⟩ = some (.slice none 0 0)) (hf : W.frozen? ⟨w4.heap.size + 2, 0, none⟩ = false) => kfa (kca h o) (kfa h hf o) o2
  clear F4 kw
  go_cut [7, 8, 9] (fun p7 p8 b9 wx => ∃ (b7 b8 g1 c1 g2 c2 : Nat), p7 = .pointer (some ⟨b7, 0, none⟩) ∧ p8 = .pointer (some ⟨b8, 0, none⟩) ∧ b9 = .bool true ∧
    wx.cell? ⟨b7, 0, none⟩ = some (.slice (some ⟨g1, 0, none⟩) qs.length c1) ∧ wx.cell? ⟨b8, 0, none⟩ = some (.slice (some ⟨g2, 0, none⟩) 1 c2) ∧ qs.length ≤ c1 ∧ w4.heap.size ≤ b7 ∧ w4.heap.size ≤ b8 ∧ w4.heap.size ≤ g1 ∧ w4.heap.size ≤ g2 ∧ Rd wx g1 qs ∧ Rd wx g2 [at_ rs 0] ∧ Below w4.heap.size w4 wx)
  case first =>
    go_region_law (first
      | (go_simp; go_at_call 62; (with_reducible refine (impl_turned z _).mono ?_); rintro e w' ⟨rfl, rfl⟩)
      | (go_simp; go_at_call 61; refine (Z2.out _ _ _ ?ra ?rb).mono ?_;
         case ra => (repeat (first | exact RA4.out | (with_reducible refine Rd.drew ?_) | (with_reducible refine Rd.alloc ?_ _)));
         case rb => (repeat (first | exact two_rd (by simp) (neg32 z.1, neg32 z.2) one _ | (with_reducible refine Rd.drew ?_) | (with_reducible refine Rd.alloc ?_ _)));
         rintro e w5 ⟨g1, c1, g2, c2, rfl, hg1, hg2, hr1, hr2, hb5, hcc⟩;
         (try have kc0 : w5.cell? ⟨w4.heap.size , 0, none⟩ = some (.slice none 0 0) := by (rw [hb5.cell (by simp <;> omega)]; go_simp));
         (try have kf0 : w5.frozen? ⟨w4.heap.size , 0, none⟩ = false := by (rw [hb5.frozen (by simp <;> omega)]; go_simp));
         (try have kc1 : w5.cell? ⟨w4.heap.size + 1, 0, none⟩ = some (.slice none 0 0) := by (rw [hb5.cell (by simp <;> omega)]; go_simp));
         (try have kf1 : w5.frozen? ⟨w4.heap.size + 1, 0, none⟩ = false := by (rw [hb5.frozen (by simp <;> omega)]; go_simp));
         (try have kc2 : w5.cell? ⟨w4.heap.size + 2, 0, none⟩ = some (.slice none 0 0) := by (rw [hb5.cell (by simp <;> omega)]; go_simp));
         (try have kf2 : w5.frozen? ⟨w4.heap.size + 2, 0, none⟩ = false := by (rw [hb5.frozen (by simp <;> omega)]; go_simp));
         have HW5 : Hid (Below w4.heap.size w4 w5) := Lib.hid (by refine Below.trans ?_ (hb5.mono (by simp <;> omega)); (repeat (first | exact Below.refl _ _ | (with_reducible refine Below.drew ?_) | (with_reducible refine Below.alloc ?_ (by simp <;> omega) _))));
         have hsz := hb5.size;
         simp at hg1 hg2;
         have HG1 := Lib.hid hg1; have HG2 := Lib.hid hg2; have HR1 := Lib.hid hr1; have HR2 := Lib.hid hr2; have HB5 := Lib.hid hb5; have HCC := Lib.hid hcc;
         clear hg1 hg2 hr1 hr2 hb5 hcc;
         simp at hsz;
         (try have kn0 : w4.heap.size  ≠ w5.heap.size := by omega);
         (try have km0 : w4.heap.size  ≠ w5.heap.size + 1 := by omega);
         (try have kl0 : w4.heap.size  < w5.heap.size := by omega);
         (try have ko0 : w4.heap.size  < w5.heap.size + 1 := by omega);
         (try have kn1 : w4.heap.size + 1 ≠ w5.heap.size := by omega);
         (try have km1 : w4.heap.size + 1 ≠ w5.heap.size + 1 := by omega);
         (try have kl1 : w4.heap.size + 1 < w5.heap.size := by omega);
         (try have ko1 : w4.heap.size + 1 < w5.heap.size + 1 := by omega);
         (try have kn2 : w4.heap.size + 2 ≠ w5.heap.size := by omega);
         (try have km2 : w4.heap.size + 2 ≠ w5.heap.size + 1 := by omega);
         (try have kl2 : w4.heap.size + 2 < w5.heap.size := by omega);
         (try have ko2 : w4.heap.size + 2 < w5.heap.size + 1 := by omega)))
    all_goals
      have G1 := HG1.out
      have G2 := HG2.out
      have L1 := HR1.out.1
      have L2 := HR2.out.1
      go_wp2
      go_meet
      case rel =>
        refine ⟨_, _, g1, c1, g2, c2, rfl, rfl, rfl, by go_simp, by go_simp, HCC.out, by omega, by omega, by omega, by omega, ?_, ?_, ?_⟩
        · (repeat (first | exact HR1.out | (with_reducible refine Rd.setCellB ?_ (by omega) _) | (with_reducible refine Rd.alloc ?_ _)))
        · (repeat (first | exact HR2.out | (with_reducible refine Rd.setCellB ?_ (by omega) _) | (with_reducible refine Rd.alloc ?_ _)))
        · (repeat (first | exact HW5.out | (with_reducible refine Go.Proofs.YtlhdgbiaiacpfaaGreat.Below.setCellB ?_ (by omega) _) | (with_reducible refine Below.alloc ?_ (by first | omega | (simp; omega)) _)))
  case rest =>
    obtain ⟨b7, b8, g1, c1, g2, c2, rfl, rfl, rfl, k7, k8, kc1, kb7, kb8, kg1, kg2, kr1, kr2, hbx⟩ := hcut
    have FC := Lib.hid (F4'.out.below (hbx.mono F4'.out.sz))
    have HBX := Lib.hid (below_trans HB4.out hbx)
    have S4 := F4'.out.sz
    have fc1 := FC.out.c1
    have ff1 := FC.out.f1
    have hr2 := kr2.2 0 (by simp)
    have KC1 := Lib.hid kc1
    have KR1 := Lib.hid kr1
    have KG1 := Lib.hid kg1
    clear hkca hkda hkea hkc0 hkd0 hke0 hkf0 hkg0 hkc1 hkd1 hke1 hkf1 hkg1 hkc2 hkd2 hke2 hkf2 hkg2 kc1 kr1 kg1 kr2 cA4 RA4 hbx
    have n7 : w.heap.size + 1 ≠ b7 := by omega
    have n7' : b7 ≠ w.heap.size + 1 := by omega
    have n8 : w.heap.size + 1 ≠ b8 := by omega
    have n8' : b8 ≠ w.heap.size + 1 := by omega
    have n2 : w.heap.size + 1 ≠ g2 := by omega
    have n2' : g2 ≠ w.heap.size + 1 := by omega
    go_wp2
    go_region
    go_wp2
    have e4 : (wc.setCell ⟨w.heap.size + 1, 0, none⟩ (.slice (some ⟨g1, 0, none⟩) qs.length c1)).cell? ⟨w.heap.size + 1, 0, none⟩ = some (.slice (some ⟨g1, 0, none⟩) qs.length c1) := by go_simp
    refine bodyPost_ret (v := .tuple #[.agg #[.slice (some ⟨g1, 0, none⟩) qs.length c1], cv (at_ rs 0), .bool true]) (by simp [results, Tryz.results19, go_sem, e4]; rfl) rfl ⟨g1, c1, rfl, ?_, ?_, ?_, KC1.out⟩
    · have := KG1.out; omega
    · exact (KR1.out.setCellB (b := w.heap.size + 1) (by have := KG1.out; omega) _).drew
    · exact (Go.Proofs.YtlhdgbiaiacpfaaGreat.Below.setCellB (b := w.heap.size + 1) HBX.out (by omega) _).drew
end Go.Proofs.YtlhdgbiaiacpfaaGreat
