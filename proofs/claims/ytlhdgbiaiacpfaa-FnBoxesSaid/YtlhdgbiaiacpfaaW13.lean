/- Contracts of the reference's angle. No condition but that the operations are valid. -/
import Derived.Test.YtlhdgbiaiacpfaaW12
namespace Go.Proofs.Ytlhdgbiaiacpfaa
open Go.RowKit

theorem angK_int : ∀ i : Nat, i < 8 → floatOfInt .f64 (15 - 2 * (i : Int)) = angK i := by
  have h : ((List.range 8).all fun i => floatOfInt .f64 (15 - 2 * ((i : Nat) : Int)) == angK i) = true := by kernel_rfl
  intro i hi
  have := List.all_eq_true.1 h i (List.mem_range.2 hi)
  simpa using this

set_option maxRecDepth 100000 in
set_option maxHeartbeats 4000000 in
theorem spec_l01AngleWide (y x wy wx q t0 t1 t2 t3 u p g g1 g2 g3 : Nat) (ov xn yn : Bool) (w : World) (hi : AngIn y x wy wx xn yn)
    (ha : Ang (absW wy) (absW wx) q t0 t1 t2 t3 u p g g1 g2 g3 ov xn yn) :
    Calls Try.prog 101 #[.float .f64 wy, .float .f64 wx] w fun e w' => e = .returned (.float .f64 g3) ∧ w = w' := by
  obtain ⟨_, _, _, _, i5, i6, i7, i8, i9, j1, j2, j3, j4⟩ := hi
  obtain ⟨a1, a2, a3, a4, a5, a6, a7, a8, a9, b1, b2, b3⟩ := ha
  obtain ⟨tt1, s1, r1, d1, m11, m12, m13, m14, m15⟩ := angT_parts a4
  obtain ⟨tt2, s2, r2, d2, m21, m22, m23, m24, m25⟩ := angT_parts a5
  obtain ⟨tt3, s3, r3, d3, m31, m32, m33, m34, m35⟩ := angT_parts a6
  obtain ⟨tp, ee, m41, m42, m43⟩ := angE_parts a9
  have A8 := Lib.hid a8
  have h00 : FloatKind.f64.format.order 0 0 = some .eq := by kernel_rfl
  rw [← j3] at i7 i8
  rw [← j4] at i7 i9
  unfold div64 at a1 a3
  unfold gt64 at a2
  unfold mul64 at a7
  unfold sub64 at b1 b2 j1 j2
  unfold half64 at b2
  unfold quarter64 at b1
  clear a4 a5 a6 a8 a9 j3 j4
  rcases i7 with i7 | ⟨i7, i7'⟩ <;> cases ov <;> cases xn <;> cases yn
  all_goals
    simp only [Bool.false_eq_true, if_false, if_true, Option.some.injEq, neg64] at a3 b1 b2 b3
    try subst a3
    try subst b1
    try subst b2
    subst b3
    go_enter Try.func101, Try.ntmps101
    go_wp2_with (first
      | (go_at_call 77; (with_reducible refine (math_Abs wy i5 _).mono ?_); rintro e w' ⟨rfl, rfl⟩)
      | (go_at_call 77; (with_reducible refine (math_Abs wx i6 _).mono ?_); rintro e w' ⟨rfl, rfl⟩))
    refine wp_loop_rounds 4 ?_
    rw [rounds_succ]
    go_wp2_with (go_at_call 78; (with_reducible refine (math_Sqrt s1 r1 m13 _).mono ?_); rintro e w' ⟨rfl, rfl⟩)
    rw [rounds_succ]
    go_wp2_with (go_at_call 78; (with_reducible refine (math_Sqrt s2 r2 m23 _).mono ?_); rintro e w' ⟨rfl, rfl⟩)
    rw [rounds_succ]
    go_wp2_with (go_at_call 78; (with_reducible refine (math_Sqrt s3 r3 m33 _).mono ?_); rintro e w' ⟨rfl, rfl⟩)
    rw [rounds_succ]
    go_wp2
    go_loop [11, 12] (fun s k => ∃ (i v : Nat), i ≤ 8 ∧ Hid (angP u i = some v) ∧ s = .float .f64 v ∧ k = .int .i64 (15 - 2 * i)) (fun _ k => (intOf k + 2).toNat)
    case atStart => exact ⟨0, 0, by omega, Lib.hid rfl, rfl, rfl⟩
    case round =>
      obtain ⟨i, v, hi8, hv, rfl, rfl⟩ := hrel
      by_cases hlt : i < 8
      · obtain ⟨f1, f2, f3⟩ := angK_facts i hlt
        obtain ⟨up, v', h1, h2, h3⟩ := angP_succ A8.out hlt hv.out
        have H3 := Lib.hid h3
        have f0 := angK_int i hlt
        unfold div64 one64 at f1
        unfold mul64 at h1
        unfold sub64 at h2
        clear h3 hv f2 f3
        go_wp2
        go_round
        case rel => exact ⟨i + 1, v', by omega, H3, rfl, by go_num⟩
        case measure => simp [intOf]; omega
      · have e8 : i = 8 := by omega
        have e2 : v = p := Option.some.inj (hv.out.symm.trans (e8 ▸ A8.out))
        subst e2
        clear hv
        go_wp2
        go_ret
        exact ⟨rfl, rfl⟩

theorem spec_l01AngleWide_zero (y x : Nat) (w : World) (j1 : sub64 y y = some 0) (j2 : sub64 x x = some 0) (i3 : (FloatKind.f64.format.order x 0 == some .eq) = true) (i4 : (FloatKind.f64.format.order y 0 == some .eq) = true) :
    Calls Try.prog 101 #[.float .f64 y, .float .f64 x] w fun e w' => e = .returned (.float .f64 0) ∧ w = w' := by
  have h00 : FloatKind.f64.format.order 0 0 = some .eq := by kernel_rfl
  unfold sub64 at j1 j2
  go_enter Try.func101, Try.ntmps101
  go_wp2
  go_ret
  exact ⟨rfl, rfl⟩

/-- The angle of a complex number, narrowed, where both coordinates are 0: what the reference asks. -/
def ZeroIs (z : C) : Prop := ∃ a b, wid z.1 = some a ∧ wid z.2 = some b ∧ sub64 a a = some 0 ∧ sub64 b b = some 0 ∧ (FloatKind.f64.format.order a 0 == some .eq) = true ∧ (FloatKind.f64.format.order b 0 == some .eq) = true

set_option maxHeartbeats 1000000 in
theorem spec_AngleOf_zero (z : C) (w : World) (h : ZeroIs z) :
    Calls Try.prog 92 #[cv z] w fun e w' => e = .returned (.float .f32 0) ∧ w = w' := by
  obtain ⟨a, b, h1, h2, h3, h4, h5, h6⟩ := h
  have h0 : nar 0 = some 0 := by kernel_rfl
  unfold wid at h1 h2
  have H0 := Lib.hid h0
  have H3 := Lib.hid h3
  have H4 := Lib.hid h4
  have H5 := Lib.hid h5
  have H6 := Lib.hid h6
  clear h0 h3 h4 h5 h6
  go_enter Try.func92, Try.ntmps92
  go_wp2_with (first
    | (go_at_call 101; refine (spec_l01AngleWide_zero b a _ H4.out H3.out H5.out H6.out).mono ?_; rintro e w' ⟨rfl, rfl⟩)
    | (go_at_call 81; refine (spec_l01Narrow 0 0 H0.out _).mono ?_; rintro e w' ⟨rfl, rfl⟩))
  go_ret
  exact ⟨rfl, rfl⟩

set_option maxHeartbeats 1000000 in
theorem spec_AngleOf (z : C) (wy wx q t0 t1 t2 t3 u p g g1 g2 g3 r : Nat) (ov xn yn : Bool) (w : World) (hi : AngIn z.2 z.1 wy wx xn yn)
    (ha : Ang (absW wy) (absW wx) q t0 t1 t2 t3 u p g g1 g2 g3 ov xn yn) (hr : nar g3 = some r) :
    Calls Try.prog 92 #[cv z] w fun e w' => e = .returned (.float .f32 r) ∧ w = w' := by
  have h1 := hi.widy
  have h2 := hi.widx
  unfold wid at h1 h2
  have HR := Lib.hid hr
  clear hr
  go_enter Try.func92, Try.ntmps92
  go_wp2_with (first
    | (go_at_call 101; refine (spec_l01AngleWide z.2 z.1 wy wx q t0 t1 t2 t3 u p g g1 g2 g3 ov xn yn _ hi ha).mono ?_; rintro e w' ⟨rfl, rfl⟩)
    | (go_at_call 81; refine (spec_l01Narrow g3 r HR.out _).mono ?_; rintro e w' ⟨rfl, rfl⟩))
  go_ret
  exact ⟨rfl, rfl⟩
end Go.Proofs.Ytlhdgbiaiacpfaa
