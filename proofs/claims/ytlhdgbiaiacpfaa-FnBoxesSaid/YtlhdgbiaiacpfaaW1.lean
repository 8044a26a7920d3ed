/- Contracts of the program's small functions over complex numbers. No condition but that the operations are valid. -/
import Derived.Test.YtlhdgbiaiacpfaaChecked
import Derived.Test.YtlhdgbiaiacpfaaF
namespace Go.Proofs.Ytlhdgbiaiacpfaa
open Go.RowKit

theorem impl_times (x y : C) (r : Nat × Nat) (h : timesO x y = some r) (w : World) :
    Calls Try.prog 55 #[cv x, cv y] w fun e w' => e = .returned (.tuple #[.float .f64 r.1, .float .f64 r.2]) ∧ w = w' := by
  unfold timesO wid mul64 add64 sub64 at h
  simp only [Option.bind_eq_some_iff, Option.some.injEq] at h
  obtain ⟨a, ha, b, hb, c, hc, d, hd, ac, hac, bd, hbd, re, hre, ad, had, bc, hbc, im, him, rfl⟩ := h
  go_enter Try.func55, Try.ntmps55
  go_wp2
  go_ret2
  exact ⟨rfl, rfl⟩

theorem impl_MulComplex (x y r : C) (h : mulO x y = some r) (w : World) :
    Calls Try.prog 74 #[cv x, cv y] w fun e w' => e = .returned (cv r) ∧ w = w' := by
  unfold mulO narC nar at h
  simp only [Option.bind_eq_some_iff, Option.some.injEq] at h
  obtain ⟨t, ht, a, ha, b, hb, rfl⟩ := h
  go_enter Try.func74, Try.ntmps74
  go_wp2_with (go_at_call 55; refine (impl_times x y t ht _).mono ?_; rintro e w' ⟨rfl, rfl⟩)
  go_ret
  exact ⟨rfl, rfl⟩

theorem impl_plus (x y r : C) (h : plusO x y = some r) (w : World) :
    Calls Try.prog 29 #[cv x, cv y] w fun e w' => e = .returned (cv r) ∧ w = w' := by
  unfold plusO add32 at h
  simp only [Option.bind_eq_some_iff, Option.some.injEq] at h
  obtain ⟨a, ha, b, hb, rfl⟩ := h
  go_enter Try.func29, Try.ntmps29
  go_wp2
  go_ret
  exact ⟨rfl, rfl⟩

theorem impl_minus (x y r : C) (h : minusO x y = some r) (w : World) :
    Calls Try.prog 27 #[cv x, cv y] w fun e w' => e = .returned (cv r) ∧ w = w' := by
  unfold minusO sub32 at h
  simp only [Option.bind_eq_some_iff, Option.some.injEq] at h
  obtain ⟨a, ha, b, hb, rfl⟩ := h
  go_enter Try.func27, Try.ntmps27
  go_wp2
  go_ret
  exact ⟨rfl, rfl⟩

theorem impl_ScaleComplex (x r : C) (y : Nat) (h : scaleO x y = some r) (w : World) :
    Calls Try.prog 30 #[cv x, .float .f32 y] w fun e w' => e = .returned (cv r) ∧ w = w' := by
  unfold scaleO mul32 at h
  simp only [Option.bind_eq_some_iff, Option.some.injEq] at h
  obtain ⟨a, ha, b, hb, rfl⟩ := h
  go_enter Try.func30, Try.ntmps30
  go_wp2
  go_ret
  exact ⟨rfl, rfl⟩

theorem impl_ConjugateOf (x : C) (w : World) :
    Calls Try.prog 56 #[cv x] w fun e w' => e = .returned (cv (conjC x)) ∧ w = w' := by
  go_enter Try.func56, Try.ntmps56
  go_wp2
  go_ret
  exact ⟨rfl, rfl⟩

theorem impl_power (x : C) (r : Nat) (h : powerO x = some r) (w : World) :
    Calls Try.prog 57 #[cv x] w fun e w' => e = .returned (.float .f64 r) ∧ w = w' := by
  unfold powerO wid mul64 add64 at h
  simp only [Option.bind_eq_some_iff, Option.some.injEq] at h
  obtain ⟨a, ha, b, hb, aa, haa, bb, hbb, hr⟩ := h
  go_enter Try.func57, Try.ntmps57
  go_wp2
  go_ret
  exact ⟨rfl, rfl⟩

/-! The functions without a body. -/
noncomputable def sqrtRun (x : Nat) (o : Option Nat) (w : World) : Result Next :=
  match o with
  | some r => .ok (.value (.float .f64 r)) w
  | none => (callFunc 89 #[.float .f64 x]).run Try.prog w
@[go_sem] theorem sqrtRun_some (x r : Nat) (w : World) : sqrtRun x (some r) w = .ok (.value (.float .f64 r)) w := rfl
@[go_sem] theorem call_sqrt (x : Nat) (w : World) : (callFunc 89 #[.float .f64 x]).run Try.prog w = sqrtRun x (sqrt64 x) w := by
  cases h : sqrt64 x with
  | none => rfl
  | some r =>
    rw [run_callFunc_extern Try.func89 (by kernel_rfl) (by kernel_rfl) (by kernel_rfl) (e := Extern.MathSqrt.sqrt) (by kernel_rfl)]
    unfold sqrt64 at h
    have e : Extern.MathSqrt.sqrt #[.float .f64 x] = (match FloatKind.f64.format.sqrt x with | some r => pure (.float .f64 r) | none => do pure (.float .f64 (← choose (.nanBits .f64 x x)))) := rfl
    rw [e, h]
    simp [sqrtRun, Sem.run_pure]

theorem math_Sqrt (x r : Nat) (h : sqrt64 x = some r) (w : World) :
    Calls Try.prog 78 #[.float .f64 x] w fun e w' => e = .returned (.float .f64 r) ∧ w = w' := by
  go_enter Try.func78, Try.ntmps78
  go_wp2
  go_ret
  exact ⟨rfl, rfl⟩

theorem impl_QuotientOf (x y r : C) (h : quotO x y = some r) (w : World) :
    Calls Try.prog 32 #[cv x, cv y] w fun e w' => e = .returned (cv r) ∧ w = w' := by
  unfold quotO narC nar div64 at h
  simp only [Option.bind_eq_some_iff, Option.some.injEq] at h
  obtain ⟨t, ht, p, hp, a, ha, b, hb, a', ha', b', hb', rfl⟩ := h
  have ht' : timesO x (conjC y) = some t := ht
  go_enter Try.func32, Try.ntmps32
  go_wp2_with (first | (go_at_call 56; refine (impl_ConjugateOf y _).mono ?_; rintro e w' ⟨rfl, rfl⟩) | (go_at_call 55; refine (impl_times x (conjC y) t ht _).mono ?_; rintro e w' ⟨rfl, rfl⟩) | (go_at_call 57; refine (impl_power y p hp _).mono ?_; rintro e w' ⟨rfl, rfl⟩))
  go_ret
  exact ⟨rfl, rfl⟩

/-! The reference's. -/
theorem spec_l01Narrow (x r : Nat) (h : nar x = some r) (w : World) :
    Calls Try.prog 81 #[.float .f64 x] w fun e w' => e = .returned (.float .f32 r) ∧ w = w' := by
  unfold nar at h
  go_enter Try.func81, Try.ntmps81
  go_wp2
  go_ret
  exact ⟨rfl, rfl⟩

theorem spec_l01CNarrow (x : Nat × Nat) (r : C) (h : narC x = some r) (w : World) :
    Calls Try.prog 65 #[cv64 x] w fun e w' => e = .returned (cv r) ∧ w = w' := by
  unfold narC at h
  simp only [Option.bind_eq_some_iff, Option.some.injEq] at h
  obtain ⟨a, ha, b, hb, rfl⟩ := h
  go_enter Try.func65, Try.ntmps65
  go_wp2_with (first | (go_at_call 81; (with_reducible refine (spec_l01Narrow x.1 a ha _).mono ?_); rintro e w' ⟨rfl, rfl⟩) | (go_at_call 81; (with_reducible refine (spec_l01Narrow x.2 b hb _).mono ?_); rintro e w' ⟨rfl, rfl⟩))
  go_ret
  exact ⟨rfl, rfl⟩
end Go.Proofs.Ytlhdgbiaiacpfaa
