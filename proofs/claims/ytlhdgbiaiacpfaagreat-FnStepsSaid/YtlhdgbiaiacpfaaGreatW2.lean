/- Contracts of the reference's small functions over complex numbers. No condition but that the operations are valid. -/
import Derived.Test.YtlhdgbiaiacpfaaGreatW1
namespace Go.Proofs.YtlhdgbiaiacpfaaGreat
open Go.RowKit

/-- A product of 64-bit complex numbers. -/
def wideMulO (x y : Nat × Nat) : Option (Nat × Nat) :=
  (mul64 x.1 y.1).bind fun ac => (mul64 x.2 y.2).bind fun bd => (sub64 ac bd).bind fun re =>
  (mul64 x.1 y.2).bind fun ad => (mul64 x.2 y.1).bind fun bc => (add64 ad bc).bind fun im => some (re, im)
def wideO (x : C) : Option (Nat × Nat) := (wid x.1).bind fun a => (wid x.2).bind fun b => some (a, b)

theorem timesO_wide {x y : C} {r : Nat × Nat} (h : timesO x y = some r) : ∃ a b, wideO x = some a ∧ wideO y = some b ∧ wideMulO a b = some r := by
  unfold timesO at h
  simp only [Option.bind_eq_some_iff, Option.some.injEq] at h
  obtain ⟨a, ha, b, hb, c, hc, d, hd, ac, hac, bd, hbd, re, hre, ad, had, bc, hbc, im, him, rfl⟩ := h
  exact ⟨(a, b), (c, d), by simp [wideO, ha, hb], by simp [wideO, hc, hd], by simp [wideMulO, hac, hbd, hre, had, hbc, him]⟩

theorem spec_l01Wide (x : C) (r : Nat × Nat) (h : wideO x = some r) (w : World) :
    Calls Tryz.prog 124 #[cv x] w fun e w' => e = .returned (cv64 r) ∧ w = w' := by
  unfold wideO wid at h
  simp only [Option.bind_eq_some_iff, Option.some.injEq] at h
  obtain ⟨a, ha, b, hb, rfl⟩ := h
  go_enter Tryz.func124, Tryz.ntmps124
  go_wp2
  go_ret
  exact ⟨rfl, rfl⟩

theorem spec_l01WideMul (x y r : Nat × Nat) (h : wideMulO x y = some r) (w : World) :
    Calls Tryz.prog 123 #[cv64 x, cv64 y] w fun e w' => e = .returned (cv64 r) ∧ w = w' := by
  unfold wideMulO mul64 add64 sub64 at h
  simp only [Option.bind_eq_some_iff, Option.some.injEq] at h
  obtain ⟨ac, hac, bd, hbd, re, hre, ad, had, bc, hbc, im, him, rfl⟩ := h
  go_enter Tryz.func123, Tryz.ntmps123
  go_wp2
  go_ret
  exact ⟨rfl, rfl⟩

theorem spec_l01Mul (x y r : C) (h : mulO x y = some r) (w : World) :
    Calls Tryz.prog 75 #[cv x, cv y] w fun e w' => e = .returned (cv r) ∧ w = w' := by
  unfold mulO at h
  simp only [Option.bind_eq_some_iff] at h
  obtain ⟨t, ht, hr⟩ := h
  obtain ⟨a, b, ha, hb, hm⟩ := timesO_wide ht
  go_enter Tryz.func75, Tryz.ntmps75
  go_wp2_with (first
    | (go_at_call 124; (with_reducible refine (spec_l01Wide x a ha _).mono ?_); rintro e w' ⟨rfl, rfl⟩)
    | (go_at_call 124; (with_reducible refine (spec_l01Wide y b hb _).mono ?_); rintro e w' ⟨rfl, rfl⟩)
    | (go_at_call 123; (with_reducible refine (spec_l01WideMul a b t hm _).mono ?_); rintro e w' ⟨rfl, rfl⟩)
    | (go_at_call 122; (with_reducible refine (spec_l01CNarrow t r hr _).mono ?_); rintro e w' ⟨rfl, rfl⟩))
  go_ret
  exact ⟨rfl, rfl⟩

theorem spec_MulComplex (x y r : C) (h : mulO x y = some r) (w : World) :
    Calls Tryz.prog 26 #[cv x, cv y] w fun e w' => e = .returned (cv r) ∧ w = w' := by
  go_enter Tryz.func26, Tryz.ntmps26
  go_wp2_with (go_at_call 75; (with_reducible refine (spec_l01Mul x y r h _).mono ?_); rintro e w' ⟨rfl, rfl⟩)
  go_ret
  exact ⟨rfl, rfl⟩

theorem spec_l01Scale (x r : C) (y : Nat) (h : scaleO x y = some r) (w : World) :
    Calls Tryz.prog 111 #[cv x, .float .f32 y] w fun e w' => e = .returned (cv r) ∧ w = w' := by
  unfold scaleO mul32 at h
  simp only [Option.bind_eq_some_iff, Option.some.injEq] at h
  obtain ⟨a, ha, b, hb, rfl⟩ := h
  go_enter Tryz.func111, Tryz.ntmps111
  go_wp2
  go_ret
  exact ⟨rfl, rfl⟩

theorem spec_l02Times (x r : C) (y : Nat) (h : scaleO x y = some r) (w : World) :
    Calls Tryz.prog 109 #[cv x, .float .f32 y] w fun e w' => e = .returned (cv r) ∧ w = w' := by
  unfold scaleO mul32 at h
  simp only [Option.bind_eq_some_iff, Option.some.injEq] at h
  obtain ⟨a, ha, b, hb, rfl⟩ := h
  go_enter Tryz.func109, Tryz.ntmps109
  go_wp2
  go_ret
  exact ⟨rfl, rfl⟩

theorem spec_l01Conj (x : C) (w : World) :
    Calls Tryz.prog 143 #[cv x] w fun e w' => e = .returned (cv (conjC x)) ∧ w = w' := by
  go_enter Tryz.func143, Tryz.ntmps143
  go_wp2
  go_ret
  exact ⟨rfl, rfl⟩

theorem spec_l01PowerWide (x : C) (r : Nat) (h : powerO x = some r) (w : World) :
    Calls Tryz.prog 116 #[cv x] w fun e w' => e = .returned (.float .f64 r) ∧ w = w' := by
  unfold powerO wid mul64 add64 at h
  simp only [Option.bind_eq_some_iff, Option.some.injEq] at h
  obtain ⟨a, ha, b, hb, aa, haa, bb, hbb, hr⟩ := h
  go_enter Tryz.func116, Tryz.ntmps116
  go_wp2
  go_ret
  exact ⟨rfl, rfl⟩

theorem spec_l01Long (x : C) (r : Nat) (h : longO x = some r) (w : World) :
    Calls Tryz.prog 60 #[cv x] w fun e w' => e = .returned (.float .f32 r) ∧ w = w' := by
  unfold longO at h
  simp only [Option.bind_eq_some_iff] at h
  obtain ⟨p, hp, s, hs, hr⟩ := h
  go_enter Tryz.func60, Tryz.ntmps60
  go_wp2_with (first
    | (go_at_call 116; refine (spec_l01PowerWide x p hp _).mono ?_; rintro e w' ⟨rfl, rfl⟩) | (go_at_call 106; refine (math_Sqrt p s hs _).mono ?_; rintro e w' ⟨rfl, rfl⟩)
    | (go_at_call 115; (with_reducible refine (spec_l01Narrow s r hr _).mono ?_); rintro e w' ⟨rfl, rfl⟩))
  go_ret
  exact ⟨rfl, rfl⟩

theorem spec_LongOf (x : C) (r : Nat) (h : longO x = some r) (w : World) :
    Calls Tryz.prog 18 #[cv x] w fun e w' => e = .returned (.float .f32 r) ∧ w = w' := by
  go_enter Tryz.func18, Tryz.ntmps18
  go_wp2_with (go_at_call 60; refine (spec_l01Long x r h _).mono ?_; rintro e w' ⟨rfl, rfl⟩)
  go_ret
  exact ⟨rfl, rfl⟩

theorem spec_l01Sqrt (x y s r : Nat) (h1 : wid x = some y) (h2 : sqrt64 y = some s) (h3 : nar s = some r) (w : World) :
    Calls Tryz.prog 113 #[.float .f32 x] w fun e w' => e = .returned (.float .f32 r) ∧ w = w' := by
  unfold wid at h1
  go_enter Tryz.func113, Tryz.ntmps113
  go_wp2_with (first
    | (go_at_call 106; refine (math_Sqrt y s h2 _).mono ?_; rintro e w' ⟨rfl, rfl⟩) | (go_at_call 115; (with_reducible refine (spec_l01Narrow s r h3 _).mono ?_); rintro e w' ⟨rfl, rfl⟩))
  go_ret
  exact ⟨rfl, rfl⟩

theorem spec_l01Quotient (x y r : C) (h : quotO x y = some r) (w : World) :
    Calls Tryz.prog 108 #[cv x, cv y] w fun e w' => e = .returned (cv r) ∧ w = w' := by
  unfold quotO narC div64 at h
  simp only [Option.bind_eq_some_iff, Option.some.injEq] at h
  obtain ⟨t, ht, p, hp, a, ha, b, hb, a', ha', b', hb', rfl⟩ := h
  obtain ⟨u, v, hu, hv, hm⟩ := timesO_wide ht
  go_enter Tryz.func108, Tryz.ntmps108
  go_wp2_with (first
    | (go_at_call 143; (with_reducible refine (spec_l01Conj y _).mono ?_); rintro e w' ⟨rfl, rfl⟩)
    | (go_at_call 124; (with_reducible refine (spec_l01Wide x u hu _).mono ?_); rintro e w' ⟨rfl, rfl⟩)
    | (go_at_call 124; (with_reducible refine (spec_l01Wide _ v hv _).mono ?_); rintro e w' ⟨rfl, rfl⟩)
    | (go_at_call 123; (with_reducible refine (spec_l01WideMul u v t hm _).mono ?_); rintro e w' ⟨rfl, rfl⟩)
    | (go_at_call 116; (with_reducible refine (spec_l01PowerWide y p hp _).mono ?_); rintro e w' ⟨rfl, rfl⟩)
    | (go_at_call 115; (with_reducible refine (spec_l01Narrow a a' ha' _).mono ?_); rintro e w' ⟨rfl, rfl⟩)
    | (go_at_call 115; (with_reducible refine (spec_l01Narrow b b' hb' _).mono ?_); rintro e w' ⟨rfl, rfl⟩))
  go_ret
  exact ⟨rfl, rfl⟩
end Go.Proofs.YtlhdgbiaiacpfaaGreat
