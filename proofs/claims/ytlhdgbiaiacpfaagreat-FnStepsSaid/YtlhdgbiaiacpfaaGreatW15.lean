/- Contracts of the phasor and of the root of a complex number, the program's and the reference's. No condition but that the operations are valid, and where the turns lie. -/
import Derived.Test.YtlhdgbiaiacpfaaGreatW14
namespace Go.Proofs.YtlhdgbiaiacpfaaGreat
open Go.RowKit

structure Phas (y f0 f g : Nat) (neg : Bool) (q yc fc c fs s a b : Nat) (r : C) : Prop where
  inn : PhIn y f0 f g neg q
  hq : q = 0 ∨ q = 3 ∨ q = 4
  quarter : sub64 quarter64 g = some yc
  cin : SinIn yc fc
  cos : sinO fc = some c
  sin_ : SinIn g fs
  sine : sinO fs = some s
  res : phR q c s = some (a, b)
  narrow : narC (a, b) = some r

theorem below_drew {w w' : World} (h : Below w.drew.heap.size w.drew w') : Below w.heap.size w w' := ⟨h.os, h.tape, h.output, h.size, h.block⟩

set_option maxRecDepth 100000 in
set_option maxHeartbeats 2000000 in
theorem impl_PhasorOf (y f0 f g : Nat) (neg : Bool) (q yc fc c fs s a b : Nat) (r : C) (w : World) (h : Phas y f0 f g neg q yc fc c fs s a b r) :
    Calls Tryz.prog 103 #[.float .f64 y] w fun e w' => e = .returned (cv r) ∧ Below w.heap.size w w' := by
  obtain ⟨hin, hq, h1, h2, h3, h4, h5, h6, h7⟩ := h
  have i1 := hin.lt
  have i2 := hin.abs
  have i3 := hin.self
  have HT := hin.toTurnIn
  have HS := Lib.hid hin.hsub
  have HG := Lib.hid hin.hge
  have HL := hin.hlt
  have HN := Lib.hid hin.hneg
  have HA := Lib.hid hin.hadd
  have h00 : FloatKind.f64.format.order 0 0 = some .eq := by kernel_rfl
  simp only [narC, Option.bind_eq_some_iff, Option.some.injEq] at h7
  obtain ⟨ra, h7, rb, h8, rfl⟩ := h7
  unfold nar at h7 h8
  unfold sub64 at i3
  unfold sub64 quarter64 at h1
  unfold quarter64 at HL
  have H3 := Lib.hid h3
  have H5 := Lib.hid h5
  have I2 := Lib.hid i2
  clear h3 h5 i2 hin
  go_enter Tryz.func103, Tryz.ntmps103
  go_wp2_with (first
    | (go_at_call 129; refine (math_NaN _).mono ?_; rintro e w' ⟨rfl, rfl⟩)
    | (go_at_call 137; refine (impl_isHuge y i1 I2.out _).mono ?_; rintro e w' ⟨rfl, rfl⟩)
    | (go_at_call 138; refine (impl_partOfTurn y f0 f neg _ HT HN.out HA.out).mono ?_; rintro e w' ⟨rfl, rfl⟩))
  go_loop [4, 5] (fun u k => ∃ (i v : Nat), i ≤ q ∧ Hid (subQ f i = some v) ∧ u = .float .f64 v ∧ k = .int .i64 i) (fun _ k => q - (intOf k).toNat)
  case atStart => exact ⟨0, f, by omega, Lib.hid rfl, rfl, rfl⟩
  case round =>
    obtain ⟨i, v, hi8, hv, rfl, rfl⟩ := hrel
    have hq4 : q ≤ 4 := by omega
    by_cases hlt : i < q
    · have hge := HG.out i v hlt hv.out
      obtain ⟨v', k1, k2⟩ : ∃ v', sub64 v quarter64 = some v' ∧ subQ f (i + 1) = some v' := by
        have hs := HS.out
        have key : ∀ n r, subQ f n = some r → i + 1 ≤ n → ∃ v', sub64 v quarter64 = some v' ∧ subQ f (i + 1) = some v' := by
          intro n
          induction n with
          | zero => intro r _ h; omega
          | succ n ih =>
            intro r hr hle
            by_cases e : n = i
            · subst e
              have hr' := hr
              simp only [subQ, hv.out, Option.bind_some] at hr'
              exact ⟨r, hr', hr⟩
            · simp only [subQ, Option.bind_eq_some_iff] at hr
              obtain ⟨r', hr', _⟩ := hr
              exact ih r' hr' (by omega)
        exact key q g hs (by omega)
      unfold quarter64 at hge
      unfold sub64 quarter64 at k1
      have K2 := Lib.hid k2
      clear k2 hv
      go_wp2
      go_round
      case rel => exact ⟨i + 1, v', by omega, K2, rfl, by go_num⟩
      case measure => simp [intOf]; omega
    · have e : i = q := by omega
      have e2 : v = g := Option.some.inj (hv.out.symm.trans (e ▸ HS.out))
      subst e2
      clear hv
      subst e
      rcases hq with rfl | rfl | rfl
      · simp only [phR, Nat.reduceEqDiff, if_false, if_true, Option.some.injEq, Prod.mk.injEq, reduceCtorEq] at h6
        obtain ⟨rfl, rfl⟩ := h6
        go_wp2_with (first
          | (go_at_call 139; (with_reducible refine (impl_sine yc fc c _ h2 H3.out).mono ?_); rintro e w' ⟨rfl, rfl⟩)
          | (go_at_call 139; (with_reducible refine (impl_sine v fs s _ h4 H5.out).mono ?_); rintro e w' ⟨rfl, rfl⟩))
        go_ret
        exact ⟨rfl, (Below.refl _ _).drew⟩
      · simp only [phR, Nat.reduceEqDiff, if_false, if_true, Option.some.injEq, Prod.mk.injEq, reduceCtorEq, Option.bind_eq_some_iff] at h6
        obtain ⟨m, h6, rfl, rfl⟩ := h6
        unfold sub64 at h6
        go_wp2_with (first
          | (go_at_call 139; (with_reducible refine (impl_sine yc fc c _ h2 H3.out).mono ?_); rintro e w' ⟨rfl, rfl⟩)
          | (go_at_call 139; (with_reducible refine (impl_sine v fs s _ h4 H5.out).mono ?_); rintro e w' ⟨rfl, rfl⟩))
        go_ret
        exact ⟨rfl, (Below.refl _ _).drew⟩
      · simp only [phR, Nat.reduceEqDiff, if_false, if_true, Option.some.injEq, Prod.mk.injEq, reduceCtorEq] at h6
        obtain ⟨rfl, rfl⟩ := h6
        go_wp2_with (first
          | (go_at_call 139; (with_reducible refine (impl_sine yc fc c _ h2 H3.out).mono ?_); rintro e w' ⟨rfl, rfl⟩)
          | (go_at_call 139; (with_reducible refine (impl_sine v fs s _ h4 H5.out).mono ?_); rintro e w' ⟨rfl, rfl⟩))
        go_ret
        exact ⟨rfl, (Below.refl _ _).drew⟩

theorem subQ_step {f q g i v : Nat} (hs : subQ f q = some g) (hi : i < q) (hv : subQ f i = some v) : ∃ v', sub64 v quarter64 = some v' ∧ subQ f (i + 1) = some v' := by
  have key : ∀ n r, subQ f n = some r → i + 1 ≤ n → ∃ v', sub64 v quarter64 = some v' ∧ subQ f (i + 1) = some v' := by
    intro n
    induction n with
    | zero => intro r _ h; omega
    | succ n ih =>
      intro r hr hle
      by_cases e : n = i
      · subst e
        have hr' := hr
        simp only [subQ, hv, Option.bind_some] at hr'
        exact ⟨r, hr', hr⟩
      · simp only [subQ, Option.bind_eq_some_iff] at hr
        obtain ⟨r', hr', _⟩ := hr
        exact ih r' hr' (by omega)
  exact key q g hs (by omega)

set_option maxRecDepth 100000 in
set_option maxHeartbeats 2000000 in
theorem spec_l01Phasor (y f0 f g : Nat) (neg : Bool) (q yc fc c fs s a b : Nat) (r : C) (w : World) (h : Phas y f0 f g neg q yc fc c fs s a b r) :
    Calls Tryz.prog 112 #[.float .f64 y] w fun e w' => e = .returned (cv r) ∧ w = w' := by
  obtain ⟨hin, hq, h1, h2, h3, h4, h5, h6, h7⟩ := h
  have i3 := hin.self
  have i4 := hin.hi
  have i5 := hin.lo
  have i6 := hin.toI
  have i7 := hin.sub
  have i8 := hin.hneg
  have i9 := hin.hadd
  have HS := Lib.hid hin.hsub
  have HG := Lib.hid hin.hge
  have HL := hin.hlt
  have h00 : FloatKind.f64.format.order 0 0 = some .eq := by kernel_rfl
  have f00 : floatOfInt .f64 0 = 0 := by kernel_rfl
  simp only [narC, Option.bind_eq_some_iff, Option.some.injEq] at h7
  obtain ⟨ra, h7, rb, h8, rfl⟩ := h7
  unfold sub64 at i3 i7
  unfold sub64 quarter64 at h1
  unfold quarter64 at HL
  unfold add64 one64 at i9
  have H3 := Lib.hid h3
  have H5 := Lib.hid h5
  have H7 := Lib.hid h7
  have H8 := Lib.hid h8
  clear h3 h5 hin h7 h8
  cases neg <;> simp only [Bool.false_eq_true, if_false, if_true, Option.some.injEq] at i9
  all_goals
    try subst i9
    go_enter Tryz.func112, Tryz.ntmps112
    go_wp2
    go_loop [3, 4] (fun u k => ∃ (i v : Nat), i ≤ q ∧ Hid (subQ _ i = some v) ∧ u = .float .f64 v ∧ k = .int .i64 i) (fun _ k => q - (intOf k).toNat)
    case atStart => exact ⟨0, _, by omega, Lib.hid rfl, rfl, rfl⟩
    case round =>
      obtain ⟨i, v, hi8, hv, rfl, rfl⟩ := hrel
      have hq4 : q ≤ 4 := by omega
      by_cases hlt : i < q
      · have hge := HG.out i v hlt hv.out
        obtain ⟨v', k1, k2⟩ := subQ_step HS.out hlt hv.out
        unfold quarter64 at hge
        unfold sub64 quarter64 at k1
        have K2 := Lib.hid k2
        clear k2 hv
        go_wp2
        go_round
        case rel => exact ⟨i + 1, v', by omega, K2, rfl, by go_num⟩
        case measure => simp [intOf]; omega
      · have e : i = q := by omega
        have e2 : v = g := Option.some.inj (hv.out.symm.trans (e ▸ HS.out))
        subst e2
        clear hv
        subst e
        rcases hq with rfl | rfl | rfl
        · simp only [phR, Nat.reduceEqDiff, if_false, if_true, Option.some.injEq, Prod.mk.injEq, reduceCtorEq] at h6
          obtain ⟨rfl, rfl⟩ := h6
          go_wp2_with (first
            | (go_at_call 146; (with_reducible refine (spec_l01SineWide yc fc c _ h2 H3.out).mono ?_); rintro e w' ⟨rfl, rfl⟩)
            | (go_at_call 146; (with_reducible refine (spec_l01SineWide v fs s _ h4 H5.out).mono ?_); rintro e w' ⟨rfl, rfl⟩)
            | (go_at_call 115; (with_reducible refine (spec_l01Narrow _ ra H7.out _).mono ?_); rintro e w' ⟨rfl, rfl⟩)
            | (go_at_call 115; (with_reducible refine (spec_l01Narrow _ rb H8.out _).mono ?_); rintro e w' ⟨rfl, rfl⟩))
          go_ret
          exact ⟨rfl, rfl⟩
        · simp only [phR, Nat.reduceEqDiff, if_false, if_true, Option.some.injEq, Prod.mk.injEq, reduceCtorEq, Option.bind_eq_some_iff] at h6
          obtain ⟨m, h6, rfl, rfl⟩ := h6
          unfold sub64 at h6
          go_wp2_with (first
            | (go_at_call 146; (with_reducible refine (spec_l01SineWide yc fc c _ h2 H3.out).mono ?_); rintro e w' ⟨rfl, rfl⟩)
            | (go_at_call 146; (with_reducible refine (spec_l01SineWide v fs s _ h4 H5.out).mono ?_); rintro e w' ⟨rfl, rfl⟩)
            | (go_at_call 115; (with_reducible refine (spec_l01Narrow _ ra H7.out _).mono ?_); rintro e w' ⟨rfl, rfl⟩)
            | (go_at_call 115; (with_reducible refine (spec_l01Narrow _ rb H8.out _).mono ?_); rintro e w' ⟨rfl, rfl⟩))
          go_ret
          exact ⟨rfl, rfl⟩
        · simp only [phR, Nat.reduceEqDiff, if_false, if_true, Option.some.injEq, Prod.mk.injEq, reduceCtorEq] at h6
          obtain ⟨rfl, rfl⟩ := h6
          go_wp2_with (first
            | (go_at_call 146; (with_reducible refine (spec_l01SineWide yc fc c _ h2 H3.out).mono ?_); rintro e w' ⟨rfl, rfl⟩)
            | (go_at_call 146; (with_reducible refine (spec_l01SineWide v fs s _ h4 H5.out).mono ?_); rintro e w' ⟨rfl, rfl⟩)
            | (go_at_call 115; (with_reducible refine (spec_l01Narrow _ ra H7.out _).mono ?_); rintro e w' ⟨rfl, rfl⟩)
            | (go_at_call 115; (with_reducible refine (spec_l01Narrow _ rb H8.out _).mono ?_); rintro e w' ⟨rfl, rfl⟩))
          go_ret
          exact ⟨rfl, rfl⟩

/-- The angle, as the reference asks. -/
def SAngleIs (z : C) (r : Nat) : Prop :=
  (ZeroIs z ∧ r = 0) ∨
  ∃ wy wx q t0 t1 t2 t3 u p g g1 g2 g3 ov xn yn, AngIn z.2 z.1 wy wx xn yn ∧ Ang (absW wy) (absW wx) q t0 t1 t2 t3 u p g g1 g2 g3 ov xn yn ∧ nar g3 = some r
theorem spec_AngleOf_is (z : C) (r : Nat) (w : World) (h : SAngleIs z r) :
    Calls Tryz.prog 110 #[cv z] w fun e w' => e = .returned (.float .f32 r) ∧ w = w' := by
  rcases h with ⟨h, rfl⟩ | ⟨wy, wx, q, t0, t1, t2, t3, u, p, g, g1, g2, g3, ov, xn, yn, hi, ha, hr⟩
  · exact spec_AngleOf_zero z w h
  · exact spec_AngleOf z _ _ _ _ _ _ _ _ _ _ _ _ _ _ _ _ _ w hi ha hr

/-- A root of x: the number whose length is the root of that of x, and whose angle is half of it. -/
structure RootIs (x r : C) (an hn yn : Nat) (ph : C) (l ly sl rt : Nat) : Prop where
  ang : AngleIs x an
  sang : SAngleIs x an
  halved : mul32 1056964608 an = some hn
  wide : wid hn = some yn
  phas : ∃ f0 f g neg q yc fc c fs s a b, Phas yn f0 f g neg q yc fc c fs s a b ph
  long : longO x = some l
  widel : wid l = some ly
  root : sqrt64 ly = some sl
  nroot : nar sl = some rt
  scale : scaleO ph rt = some r

set_option maxHeartbeats 1000000 in
theorem impl_rootOf (x r : C) (an hn yn : Nat) (ph : C) (l ly sl rt : Nat) (w : World) (h : RootIs x r an hn yn ph l ly sl rt) :
    Calls Tryz.prog 56 #[cv x] w fun e w' => e = .returned (cv r) ∧ Below w.heap.size w w' := by
  obtain ⟨h1, _, h2, h3, ⟨f0, f, g, neg, q, yc, fc, c, fs, s, a, b, h4⟩, h5, h6, h7, h8, h9⟩ := h
  unfold mul32 at h2
  unfold wid at h3
  have H5 := Lib.hid h5
  have H6 := Lib.hid h6
  have H7 := Lib.hid h7
  have H8 := Lib.hid h8
  have H9 := Lib.hid h9
  clear h5 h6 h7 h8 h9
  go_enter Tryz.func56, Tryz.ntmps56
  go_wp2_with (first
    | (go_at_call 104; refine (impl_AngleOf x an _ h1).mono ?_; rintro e w1 ⟨rfl, hb1⟩)
    | (go_at_call 103; refine (impl_PhasorOf yn f0 f g neg q yc fc c fs s a b ph _ h4).mono ?_; rintro e w2 ⟨rfl, hb2⟩)
    | (go_at_call 58; refine (impl_LongOf x l H5.out _).mono ?_; rintro e w' ⟨rfl, rfl⟩)
    | (go_at_call 105; refine (impl_RootNumber l ly sl rt H6.out H7.out H8.out _).mono ?_; rintro e w' ⟨rfl, rfl⟩)
    | (go_at_call 53; refine (impl_ScaleComplex ph r rt H9.out _).mono ?_; rintro e w' ⟨rfl, rfl⟩))
  go_ret
  exact ⟨rfl, below_trans hb1 hb2⟩

theorem impl_degree (g n cap : Nat) (w : World) (hn : n ≤ 1000) :
    Calls Tryz.prog 55 #[.agg #[.slice (some ⟨g, 0, none⟩) n cap]] w fun e w' => e = .returned (.int .i64 ((n : Int) - 1)) ∧ Below w.heap.size w w' := by
  go_enter Tryz.func55, Tryz.ntmps55
  go_wp2
  go_ret
  exact ⟨rfl, (Below.refl _ _).alloc (Nat.le_refl _) _⟩
end Go.Proofs.YtlhdgbiaiacpfaaGreat
