/- Contracts of the reference's small functions over complex numbers. No condition but that the operations are valid. -/
import Derived.Test.YtlhdgbiaiacpfaaW1
namespace Go.Proofs.Ytlhdgbiaiacpfaa
open Go.RowKit

/-- A product of 64-bit complex numbers. -/
def wideMulO (x y : Nat × Nat) : Option (Nat × Nat) :=
  (mul64 x.1 y.1).bind fun ac => (mul64 x.2 y.2).bind fun bd => (sub64 ac bd).bind fun re =>
  (mul64 x.1 y.2).bind fun ad => (mul64 x.2 y.1).bind fun bc => (add64 ad bc).bind fun im => some (re, im)
def wideO (x : C) : Option (Nat × Nat) := (wid x.1).bind fun a => (wid x.2).bind fun b => some (a, b)

theorem timesO_wide {x y : C} {r : Nat × Nat} (h : timesO x y = some r) : ∃ a b, wideO x = some a ∧ wideO y = some b ∧ wideMulO a b = some r := by
  unfold timesO at h
  simp only [Option.bind_eq_some_iff, Option.some.injEq] at h
  obtain ⟨a, ha, b, hb, c, hc, d, hd, ac, hac, bd, hbd, re, hre, ad, had, bc, hbc, im, him, rfl⟩ := h
  exact ⟨(a, b), (c, d), by simp [wideO, ha, hb], by simp [wideO, hc, hd], by simp [wideMulO, hac, hbd, hre, had, hbc, him]⟩

theorem spec_l01Wide (x : C) (r : Nat × Nat) (h : wideO x = some r) (w : World) :
    Calls Try.prog 67 #[cv x] w fun e w' => e = .returned (cv64 r) ∧ w = w' := by
  unfold wideO wid at h
  simp only [Option.bind_eq_some_iff, Option.some.injEq] at h
  obtain ⟨a, ha, b, hb, rfl⟩ := h
  go_enter Try.func67, Try.ntmps67
  go_wp2
  go_ret
  exact ⟨rfl, rfl⟩

theorem spec_l01WideMul (x y r : Nat × Nat) (h : wideMulO x y = some r) (w : World) :
    Calls Try.prog 66 #[cv64 x, cv64 y] w fun e w' => e = .returned (cv64 r) ∧ w = w' := by
  unfold wideMulO mul64 add64 sub64 at h
  simp only [Option.bind_eq_some_iff, Option.some.injEq] at h
  obtain ⟨ac, hac, bd, hbd, re, hre, ad, had, bc, hbc, im, him, rfl⟩ := h
  go_enter Try.func66, Try.ntmps66
  go_wp2
  go_ret
  exact ⟨rfl, rfl⟩

theorem spec_l01Mul (x y r : C) (h : mulO x y = some r) (w : World) :
    Calls Try.prog 47 #[cv x, cv y] w fun e w' => e = .returned (cv r) ∧ w = w' := by
  unfold mulO at h
  simp only [Option.bind_eq_some_iff] at h
  obtain ⟨t, ht, hr⟩ := h
  obtain ⟨a, b, ha, hb, hm⟩ := timesO_wide ht
  go_enter Try.func47, Try.ntmps47
  go_wp2_with (first
    | (go_at_call 67; (with_reducible refine (spec_l01Wide x a ha _).mono ?_); rintro e w' ⟨rfl, rfl⟩)
    | (go_at_call 67; (with_reducible refine (spec_l01Wide y b hb _).mono ?_); rintro e w' ⟨rfl, rfl⟩)
    | (go_at_call 66; (with_reducible refine (spec_l01WideMul a b t hm _).mono ?_); rintro e w' ⟨rfl, rfl⟩)
    | (go_at_call 65; (with_reducible refine (spec_l01CNarrow t r hr _).mono ?_); rintro e w' ⟨rfl, rfl⟩))
  go_ret
  exact ⟨rfl, rfl⟩

theorem spec_l02Times (x r : C) (y : Nat) (h : scaleO x y = some r) (w : World) :
    Calls Try.prog 62 #[cv x, .float .f32 y] w fun e w' => e = .returned (cv r) ∧ w = w' := by
  unfold scaleO mul32 at h
  simp only [Option.bind_eq_some_iff, Option.some.injEq] at h
  obtain ⟨a, ha, b, hb, rfl⟩ := h
  go_enter Try.func62, Try.ntmps62
  go_wp2
  go_ret
  exact ⟨rfl, rfl⟩

theorem spec_l01Conj (x : C) (w : World) :
    Calls Try.prog 99 #[cv x] w fun e w' => e = .returned (cv (conjC x)) ∧ w = w' := by
  go_enter Try.func99, Try.ntmps99
  go_wp2
  go_ret
  exact ⟨rfl, rfl⟩

theorem spec_l01PowerWide (x : C) (r : Nat) (h : powerO x = some r) (w : World) :
    Calls Try.prog 100 #[cv x] w fun e w' => e = .returned (.float .f64 r) ∧ w = w' := by
  unfold powerO wid mul64 add64 at h
  simp only [Option.bind_eq_some_iff, Option.some.injEq] at h
  obtain ⟨a, ha, b, hb, aa, haa, bb, hbb, hr⟩ := h
  go_enter Try.func100, Try.ntmps100
  go_wp2
  go_ret
  exact ⟨rfl, rfl⟩

theorem spec_l01Quotient (x y r : C) (h : quotO x y = some r) (w : World) :
    Calls Try.prog 91 #[cv x, cv y] w fun e w' => e = .returned (cv r) ∧ w = w' := by
  unfold quotO narC div64 at h
  simp only [Option.bind_eq_some_iff, Option.some.injEq] at h
  obtain ⟨t, ht, p, hp, a, ha, b, hb, a', ha', b', hb', rfl⟩ := h
  obtain ⟨u, v, hu, hv, hm⟩ := timesO_wide ht
  go_enter Try.func91, Try.ntmps91
  go_wp2_with (first
    | (go_at_call 99; (with_reducible refine (spec_l01Conj y _).mono ?_); rintro e w' ⟨rfl, rfl⟩)
    | (go_at_call 67; (with_reducible refine (spec_l01Wide x u hu _).mono ?_); rintro e w' ⟨rfl, rfl⟩)
    | (go_at_call 67; (with_reducible refine (spec_l01Wide _ v hv _).mono ?_); rintro e w' ⟨rfl, rfl⟩)
    | (go_at_call 66; (with_reducible refine (spec_l01WideMul u v t hm _).mono ?_); rintro e w' ⟨rfl, rfl⟩)
    | (go_at_call 100; (with_reducible refine (spec_l01PowerWide y p hp _).mono ?_); rintro e w' ⟨rfl, rfl⟩)
    | (go_at_call 81; (with_reducible refine (spec_l01Narrow a a' ha' _).mono ?_); rintro e w' ⟨rfl, rfl⟩)
    | (go_at_call 81; (with_reducible refine (spec_l01Narrow b b' hb' _).mono ?_); rintro e w' ⟨rfl, rfl⟩))
  go_ret
  exact ⟨rfl, rfl⟩
end Go.Proofs.Ytlhdgbiaiacpfaa
