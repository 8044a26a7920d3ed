/- Contracts of math's functions, of the program's and the reference's angle. No condition but that the operations are valid. -/
import Derived.Test.YtlhdgbiaiacpfaaW10
namespace Go.Proofs.Ytlhdgbiaiacpfaa
open Go.RowKit

/-! Functions without a body. -/
@[go_sem] theorem call_f64bits (x : Nat) (w : World) : (callFunc 88 #[.float .f64 x]).run Try.prog w = .ok (.value (.int .u64 x)) w := by
  rw [run_callFunc_extern Try.func88 (by kernel_rfl) (by kernel_rfl) (by kernel_rfl) (e := Extern.MathFloatBits.float64bits) (by kernel_rfl)]
  have e : Extern.MathFloatBits.float64bits #[.float .f64 x] = pure (.int .u64 x) := rfl
  rw [e]; rfl
@[go_sem] theorem call_f64frombits (n : Int) (w : World) : (callFunc 87 #[.int .u64 n]).run Try.prog w = .ok (.value (.float .f64 n.toNat)) w := by
  rw [run_callFunc_extern Try.func87 (by kernel_rfl) (by kernel_rfl) (by kernel_rfl) (e := Extern.MathFloatBits.float64frombits) (by kernel_rfl)]
  have e : Extern.MathFloatBits.float64frombits #[.int .u64 n] = pure (.float .f64 n.toNat) := rfl
  rw [e]; rfl
/-- The integer below, cut towards 0. -/
def trunc64 (x : Nat) : Option Nat :=
  match FloatKind.f64.decode x with
  | .nan _ _ => none
  | d => some (FloatKind.f64.encode (d.integral .zero))
noncomputable def truncRun (x : Nat) (o : Option Nat) (w : World) : Result Next :=
  match o with
  | some r => .ok (.value (.float .f64 r)) w
  | none => (callFunc 95 #[.float .f64 x]).run Try.prog w
@[go_sem] theorem truncRun_some (x r : Nat) (w : World) : truncRun x (some r) w = .ok (.value (.float .f64 r)) w := rfl
@[go_sem] theorem call_trunc (x : Nat) (w : World) : (callFunc 95 #[.float .f64 x]).run Try.prog w = truncRun x (trunc64 x) w := by
  cases h : trunc64 x with
  | none => rfl
  | some r =>
    rw [run_callFunc_extern Try.func95 (by kernel_rfl) (by kernel_rfl) (by kernel_rfl) (e := Extern.MathFloor.toIntegral "math.archTrunc" .zero) (by kernel_rfl)]
    have e : Extern.MathFloor.toIntegral "math.archTrunc" .zero #[.float .f64 x] = (match FloatKind.f64.decode x with
      | .nan s t =>
        if FloatKind.f64.format.quiet t = t then pure (.float .f64 x) else do
        let kept ← choose (.extern "math.Floor,Ceil,Trunc,RoundToEven.signallingNaN kept" 2)
        pure (.float .f64 (if kept == 1 then x else FloatKind.f64.encode (.nan s (FloatKind.f64.format.quiet t))))
      | d => pure (.float .f64 (FloatKind.f64.encode (d.integral .zero)))) := rfl
    rw [e]
    unfold trunc64 at h
    cases hd : FloatKind.f64.decode x <;> rw [hd] at h <;> simp at h <;> subst h <;> simp [truncRun, Sem.run_pure]

/-- A word without its sign. -/
def absW (x : Nat) : Nat := x % 9223372036854775808
theorem math_Abs (x : Nat) (h : x < 18446744073709551616) (w : World) :
    Calls Try.prog 77 #[.float .f64 x] w fun e w' => e = .returned (.float .f64 (absW x)) ∧ w = w' := by
  have hb : bits .andNot .u64 (x : Int) 9223372036854775808 = ((absW x : Nat) : Int) := by
    have := u64_andNot_nat x 9223372036854775808 h (by omega)
    rw [show ((9223372036854775808 : Nat) : Int) = 9223372036854775808 from rfl] at this
    rw [this, show (18446744073709551615 - 9223372036854775808 : Nat) = 2 ^ 63 - 1 from rfl, Nat.and_two_pow_sub_one_eq_mod]; rfl
  go_enter Try.func77, Try.ntmps77
  go_wp2
  go_ret
  exact ⟨rfl, rfl⟩

theorem math_Trunc (x r : Nat) (h : trunc64 x = some r) (w : World) :
    Calls Try.prog 82 #[.float .f64 x] w fun e w' => e = .returned (.float .f64 r) ∧ w = w' := by
  go_enter Try.func82, Try.ntmps82
  go_wp2
  go_ret
  exact ⟨rfl, rfl⟩

theorem math_NaN (w : World) : Calls Try.prog 76 #[] w fun e w' => e = .returned (.float .f64 9221120237041090561) ∧ w = w' := by
  go_enter Try.func76, Try.ntmps76
  go_wp2
  go_ret
  exact ⟨rfl, rfl⟩

/-! The angle. -/
def one64 : Nat := 4607182418800017408
def half64 : Nat := 4602678819172646912
def quarter64 : Nat := 4598175219545276416
def tau64 : Nat := 4618760256179416344
def eight64 : Nat := 4620693217682128896
def two64 : Nat := 4611686018427387904
def gt64 (x y : Nat) : Bool := FloatKind.f64.format.order x y == some .gt
def lt64 (x y : Nat) : Bool := FloatKind.f64.format.order x y == some .lt
def lt32 (x y : Nat) : Bool := FloatKind.f32.format.order x y == some .lt
def eq32 (x y : Nat) : Bool := FloatKind.f32.format.order x y == some .eq
def eq64 (x y : Nat) : Bool := FloatKind.f64.format.order x y == some .eq

def angT (t : Nat) : Option Nat := (mul64 t t).bind fun tt => (add64 one64 tt).bind fun s => (sqrt64 s).bind fun r => (add64 one64 r).bind fun d => div64 t d
/-- 15, 13, .. 1, -1. -/
def angK : Nat → Nat
  | 0 => 4624633867356078080
  | i + 1 => (sub64 (angK i) two64).getD 0
/-- 1 / 15, 1 / 13, .. -/
def angC (i : Nat) : Nat := (div64 one64 (angK i)).getD 0
def angP (u : Nat) : Nat → Option Nat
  | 0 => some 0
  | i + 1 => (angP u i).bind fun p => (mul64 u p).bind fun up => sub64 (angC i) up
def angE (t p : Nat) : Option Nat := (mul64 t p).bind fun tp => (mul64 eight64 tp).bind fun e => div64 e tau64
/-- The angle behind the turns, in 64 bits: a and b the absolute values of y and x. -/
structure Ang (a b q t0 t1 t2 t3 u p g g1 g2 g3 : Nat) (ov xn yn : Bool) : Prop where
  quo : div64 a b = some q
  over : gt64 a b = ov
  first : (if ov then div64 b a else some q) = some t0
  s1 : angT t0 = some t1
  s2 : angT t1 = some t2
  s3 : angT t2 = some t3
  square : mul64 t3 t3 = some u
  poly : angP u 8 = some p
  ends : angE t3 p = some g
  e1 : (if ov then sub64 quarter64 g else some g) = some g1
  e2 : (if xn then sub64 half64 g1 else some g1) = some g2
  e3 : (if yn then neg64 g2 else g2) = g3

theorem angP_some {u r : Nat} : ∀ {n j : Nat}, angP u n = some r → j ≤ n → ∃ v, angP u j = some v := by
  intro n j
  induction n generalizing r with
  | zero => intro h hj; obtain rfl : j = 0 := by omega
            exact ⟨r, h⟩
  | succ n ih =>
    intro h hj
    by_cases e : j = n + 1
    · subst e; exact ⟨r, h⟩
    · simp only [angP, Option.bind_eq_some_iff] at h
      obtain ⟨v, hv, _⟩ := h
      exact ih hv (by omega)
theorem angP_succ {u r n j : Nat} (h : angP u n = some r) (hj : j < n) {p : Nat} (hp : angP u j = some p) :
    ∃ up p', mul64 u p = some up ∧ sub64 (angC j) up = some p' ∧ angP u (j + 1) = some p' := by
  obtain ⟨p', hu⟩ := angP_some h (j := j + 1) (by omega)
  have hu' := hu
  simp only [angP, hp, Option.bind_some, Option.bind_eq_some_iff] at hu'
  obtain ⟨up, h1, h2⟩ := hu'
  exact ⟨up, p', h1, h2, hu⟩
theorem angK_facts : ∀ i, i < 8 → div64 one64 (angK i) = some (angC i) ∧ sub64 (angK i) two64 = some (angK (i + 1)) ∧ FloatKind.f64.format.order (angK i) one64 = some (if i = 7 then .eq else .gt) := by
  have h : ((List.range 8).all fun i => (div64 one64 (angK i) == some (angC i)) && (sub64 (angK i) two64 == some (angK (i + 1))) && (FloatKind.f64.format.order (angK i) one64 == some (if i = 7 then .eq else .gt))) = true := by kernel_rfl
  intro i hi
  have := List.all_eq_true.1 h i (List.mem_range.2 hi)
  simp only [Bool.and_eq_true, beq_iff_eq] at this
  exact ⟨this.1.1, this.1.2, this.2⟩
/-- A measure for a loop whose counter is a number that is lessened until it is negative. -/
def fm : Value → Nat
  | .float _ n => if n < 9223372036854775808 then n + 1 else 0
  | _ => 0
theorem angK_less : ∀ i, i < 8 → fm (.float .f64 (angK (i + 1))) < fm (.float .f64 (angK i)) := by
  have h : ((List.range 8).all fun i => decide (fm (.float .f64 (angK (i + 1))) < fm (.float .f64 (angK i)))) = true := by kernel_rfl
  intro i hi
  have := List.all_eq_true.1 h i (List.mem_range.2 hi)
  simpa using this
theorem angK_8 : FloatKind.f64.format.order (angK 8) one64 = some .lt := by kernel_rfl
theorem angK_0 : angK 0 = 4624633867356078080 := rfl
end Go.Proofs.Ytlhdgbiaiacpfaa
