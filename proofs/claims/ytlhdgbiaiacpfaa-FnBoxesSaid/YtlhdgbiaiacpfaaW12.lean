/- Contracts of the angle, the program's and the reference's. No condition but that the operations are valid. -/
import Derived.Test.YtlhdgbiaiacpfaaW11
namespace Go.Proofs.Ytlhdgbiaiacpfaa
open Go.RowKit

theorem angT_parts {t r : Nat} (h : angT t = some r) : ∃ tt s q d, floatBits .mul .f64 t t = some tt ∧ floatBits .add .f64 4607182418800017408 tt = some s ∧ sqrt64 s = some q ∧ floatBits .add .f64 4607182418800017408 q = some d ∧ floatBits .quo .f64 t d = some r := by
  simp only [angT, Option.bind_eq_some_iff] at h
  obtain ⟨tt, h1, s, h2, q, h3, d, h4, h5⟩ := h
  exact ⟨tt, s, q, d, h1, h2, h3, h4, h5⟩
theorem angE_parts {t p r : Nat} (h : angE t p = some r) : ∃ tp e, floatBits .mul .f64 t p = some tp ∧ floatBits .mul .f64 4620693217682128896 tp = some e ∧ floatBits .quo .f64 e 4618760256179416344 = some r := by
  simp only [angE, Option.bind_eq_some_iff] at h
  obtain ⟨tp, h1, e, h2, h3⟩ := h
  exact ⟨tp, e, h1, h2, h3⟩

/-- Both coordinates, widened, their absolute values, and what is asked of the tests. -/
structure AngIn (y x wy wx : Nat) (xn yn : Bool) : Prop where
  finy : Fin y
  finx : Fin x
  widy : wid y = some wy
  widx : wid x = some wx
  lty : wy < 18446744073709551616
  ltx : wx < 18446744073709551616
  nz : (FloatKind.f32.format.order x 0 == some .eq) = false ∨ (FloatKind.f32.format.order x 0 == some .eq) = true ∧ (FloatKind.f32.format.order y 0 == some .eq) = false
  xneg : (FloatKind.f32.format.order x 0 == some .lt) = xn
  yneg : (FloatKind.f32.format.order y 0 == some .lt) = yn
  selfy : sub64 wy wy = some 0
  selfx : sub64 wx wx = some 0
  ordx : FloatKind.f64.format.order wx 0 = FloatKind.f32.format.order x 0
  ordy : FloatKind.f64.format.order wy 0 = FloatKind.f32.format.order y 0

theorem two_cells32 (w : World) (a b : Nat) (T : TypeId) : ∀ k, k < 2 → Fin a → Fin b → ∃ x, (w.alloc (.cells #[.float .f32 a, .float .f32 b] T)).cell? ⟨w.heap.size, k, none⟩ = some (.float .f32 x) ∧ Fin x := by
  intro k hk ha hb
  obtain rfl | rfl : k = 0 ∨ k = 1 := by omega
  · exact ⟨a, by simp [cell_of_row _ _ _ _ _ _ (heap_alloc_new w _)], ha⟩
  · exact ⟨b, by simp [cell_of_row _ _ _ _ _ _ (heap_alloc_new w _)], hb⟩

set_option maxRecDepth 100000 in
set_option maxHeartbeats 4000000 in
theorem impl_AngleTurns (y x wy wx q t0 t1 t2 t3 u p g g1 g2 g3 r : Nat) (ov xn yn : Bool) (w : World) (hi : AngIn y x wy wx xn yn)
    (ha : Ang (absW wy) (absW wx) q t0 t1 t2 t3 u p g g1 g2 g3 ov xn yn) (hr : nar g3 = some r) :
    Calls Try.prog 54 #[.float .f32 y, .float .f32 x] w fun e w' => e = .returned (.float .f32 r) ∧ Below w.heap.size w w' := by
  obtain ⟨i1, i2, i3, i4, i5, i6, i7, i8, i9, _, _, _, _⟩ := hi
  obtain ⟨a1, a2, a3, a4, a5, a6, a7, a8, a9, b1, b2, b3⟩ := ha
  obtain ⟨tt1, s1, r1, d1, m11, m12, m13, m14, m15⟩ := angT_parts a4
  obtain ⟨tt2, s2, r2, d2, m21, m22, m23, m24, m25⟩ := angT_parts a5
  obtain ⟨tt3, s3, r3, d3, m31, m32, m33, m34, m35⟩ := angT_parts a6
  obtain ⟨tp, ee, m41, m42, m43⟩ := angE_parts a9
  have A8 := Lib.hid a8
  unfold wid at i3 i4
  unfold div64 at a1 a3
  unfold gt64 at a2
  unfold mul64 at a7
  unfold sub64 at b1 b2
  unfold nar at hr
  unfold half64 at b2
  unfold quarter64 at b1
  subst b3
  clear a4 a5 a6 a8 a9
  rcases i7 with i7 | ⟨i7, i7'⟩ <;> cases ov <;> cases xn <;> cases yn
  all_goals
    simp only [Bool.false_eq_true, if_false, if_true, Option.some.injEq, neg64] at a3 b1 b2 hr
  all_goals
    try subst a3
    try subst b1
    try subst b2
    go_enter Try.func54, Try.ntmps54
    go_wp2_with (first
      | (go_at_call 75; refine (impl_areFinite w.heap.size 2 2 _ (by omega) (fun k hk => two_cells32 w x y _ k hk i2 i1)).mono ?_; rintro e w' ⟨rfl, rfl⟩)
      | (go_at_call 77; (with_reducible refine (math_Abs wy i5 _).mono ?_); rintro e w' ⟨rfl, rfl⟩)
      | (go_at_call 77; (with_reducible refine (math_Abs wx i6 _).mono ?_); rintro e w' ⟨rfl, rfl⟩))
    refine wp_loop_rounds 4 ?_
    rw [rounds_succ]
    go_wp2_with (go_at_call 78; (with_reducible refine (math_Sqrt s1 r1 m13 _).mono ?_); rintro e w' ⟨rfl, rfl⟩)
    rw [rounds_succ]
    go_wp2_with (go_at_call 78; (with_reducible refine (math_Sqrt s2 r2 m23 _).mono ?_); rintro e w' ⟨rfl, rfl⟩)
    rw [rounds_succ]
    go_wp2_with (go_at_call 78; (with_reducible refine (math_Sqrt s3 r3 m33 _).mono ?_); rintro e w' ⟨rfl, rfl⟩)
    rw [rounds_succ]
    go_wp2
    go_loop [9, 10] (fun s k => ∃ (i v : Nat), i ≤ 8 ∧ Hid (angP u i = some v) ∧ s = .float .f64 v ∧ k = .float .f64 (angK i)) (fun _ k => fm k)
    case atStart => exact ⟨0, 0, by omega, Lib.hid rfl, rfl, rfl⟩
    case round =>
      obtain ⟨i, v, hi8, hv, rfl, rfl⟩ := hrel
      by_cases hlt : i < 8
      · obtain ⟨f1, f2, f3⟩ := angK_facts i hlt
        obtain ⟨up, v', h1, h2, h3⟩ := angP_succ A8.out hlt hv.out
        have H3 := Lib.hid h3
        have HM := Lib.hid (angK_less i hlt)
        unfold div64 one64 at f1
        unfold sub64 two64 at f2
        unfold one64 at f3
        unfold mul64 at h1
        unfold sub64 at h2
        clear h3 hv
        by_cases h7 : i = 7
        · subst h7
          rw [if_pos rfl] at f3
          go_wp2
          go_round
          case rel => exact ⟨8, v', by omega, H3, rfl, rfl⟩
          case measure => exact HM.out
        · rw [if_neg h7] at f3
          go_wp2
          go_round
          case rel => exact ⟨i + 1, v', by omega, H3, rfl, rfl⟩
          case measure => exact HM.out
      · have e8 : i = 8 := by omega
        subst e8
        have f3 := angK_8
        unfold one64 at f3
        have e2 : v = p := Option.some.inj (hv.out.symm.trans A8.out)
        subst e2
        clear hv
        go_wp2
        go_ret
        exact ⟨rfl, (Below.refl _ _).alloc (Nat.le_refl _) _⟩

theorem impl_AngleTurns_zero (y x : Nat) (w : World) (i1 : Fin y) (i2 : Fin x) (i3 : (FloatKind.f32.format.order x 0 == some .eq) = true) (i4 : (FloatKind.f32.format.order y 0 == some .eq) = true) :
    Calls Try.prog 54 #[.float .f32 y, .float .f32 x] w fun e w' => e = .returned (.float .f32 0) ∧ Below w.heap.size w w' := by
  go_enter Try.func54, Try.ntmps54
  go_wp2_with (go_at_call 75; refine (impl_areFinite w.heap.size 2 2 _ (by omega) (fun k hk => two_cells32 w x y _ k hk i2 i1)).mono ?_; rintro e w' ⟨rfl, rfl⟩)
  go_ret
  exact ⟨rfl, (Below.refl _ _).alloc (Nat.le_refl _) _⟩

/-- The angle of a complex number, narrowed. -/
def AngleIs (z : C) (r : Nat) : Prop :=
  (Fin z.2 ∧ Fin z.1 ∧ (FloatKind.f32.format.order z.1 0 == some .eq) = true ∧ (FloatKind.f32.format.order z.2 0 == some .eq) = true ∧ r = 0) ∨
  ∃ wy wx q t0 t1 t2 t3 u p g g1 g2 g3 ov xn yn, AngIn z.2 z.1 wy wx xn yn ∧ Ang (absW wy) (absW wx) q t0 t1 t2 t3 u p g g1 g2 g3 ov xn yn ∧ nar g3 = some r

theorem impl_AngleTurns_is (z : C) (r : Nat) (w : World) (h : AngleIs z r) :
    Calls Try.prog 54 #[.float .f32 z.2, .float .f32 z.1] w fun e w' => e = .returned (.float .f32 r) ∧ Below w.heap.size w w' := by
  rcases h with ⟨i1, i2, i3, i4, rfl⟩ | ⟨wy, wx, q, t0, t1, t2, t3, u, p, g, g1, g2, g3, ov, xn, yn, hi, ha, hr⟩
  · exact impl_AngleTurns_zero _ _ w i1 i2 i3 i4
  · exact impl_AngleTurns _ _ _ _ _ _ _ _ _ _ _ _ _ _ _ _ _ _ _ w hi ha hr

theorem impl_AngleOf (z : C) (r : Nat) (w : World) (h : AngleIs z r) :
    Calls Try.prog 31 #[cv z] w fun e w' => e = .returned (.float .f32 r) ∧ Below w.heap.size w w' := by
  go_enter Try.func31, Try.ntmps31
  go_wp2_with (go_at_call 54; refine (impl_AngleTurns_is z r _ h).mono ?_; rintro e w' ⟨rfl, hb⟩)
  go_ret
  exact ⟨rfl, hb⟩
end Go.Proofs.Ytlhdgbiaiacpfaa
