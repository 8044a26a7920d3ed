/- Contracts of the sine and the phasor, the program's and the reference's. No condition but that the operations are valid, and where the turns lie. -/
import Derived.Test.YtlhdgbiaiacpfaaW13
namespace Go.Proofs.Ytlhdgbiaiacpfaa
open Go.RowKit

/-- 8, 7, .. 1, 0. -/
def sinK : Nat → Nat
  | 0 => 4620693217682128896
  | i + 1 => (sub64 (sinK i) one64).getD 0
def sinK2 (i : Nat) : Nat := (mul64 two64 (sinK i)).getD 0
def sinK3 (i : Nat) : Nat := (add64 (sinK2 i) one64).getD 0
/-- 2 k (2 k + 1). -/
def sinD (i : Nat) : Nat := (mul64 (sinK2 i) (sinK3 i)).getD 0
def sinP (u : Nat) : Nat → Option Nat
  | 0 => some one64
  | i + 1 => (sinP u i).bind fun p => (mul64 u p).bind fun up => (div64 up (sinD i)).bind fun q => sub64 one64 q
def sinO (f : Nat) : Option Nat := (mul64 f tau64).bind fun z => (mul64 z z).bind fun u => (sinP u 8).bind fun p => mul64 z p
theorem sinP_some {u r : Nat} : ∀ {n j : Nat}, sinP u n = some r → j ≤ n → ∃ v, sinP u j = some v := by
  intro n j
  induction n generalizing r with
  | zero => intro h hj; obtain rfl : j = 0 := by omega
            exact ⟨r, h⟩
  | succ n ih =>
    intro h hj
    by_cases e : j = n + 1
    · subst e; exact ⟨r, h⟩
    · simp only [sinP, Option.bind_eq_some_iff] at h
      obtain ⟨v, hv, _⟩ := h
      exact ih hv (by omega)
theorem sinP_succ {u r n j : Nat} (h : sinP u n = some r) (hj : j < n) {p : Nat} (hp : sinP u j = some p) :
    ∃ up q p', mul64 u p = some up ∧ div64 up (sinD j) = some q ∧ sub64 one64 q = some p' ∧ sinP u (j + 1) = some p' := by
  obtain ⟨p', hu⟩ := sinP_some h (j := j + 1) (by omega)
  have hu' := hu
  simp only [sinP, hp, Option.bind_some, Option.bind_eq_some_iff] at hu'
  obtain ⟨up, h1, q, h2, h3⟩ := hu'
  exact ⟨up, q, p', h1, h2, h3, hu⟩
theorem sinK_facts : ∀ i : Nat, i < 8 → mul64 two64 (sinK i) = some (sinK2 i) ∧ add64 (sinK2 i) one64 = some (sinK3 i) ∧ mul64 (sinK2 i) (sinK3 i) = some (sinD i) ∧ sub64 (sinK i) one64 = some (sinK (i + 1)) ∧
    FloatKind.f64.format.order (sinK i) one64 = some (if i = 7 then .eq else .gt) := by
  have h : ((List.range 8).all fun i => (mul64 two64 (sinK i) == some (sinK2 i)) && (add64 (sinK2 i) one64 == some (sinK3 i)) && (mul64 (sinK2 i) (sinK3 i) == some (sinD i)) && (sub64 (sinK i) one64 == some (sinK (i + 1)))
    && (FloatKind.f64.format.order (sinK i) one64 == some (if i = 7 then .eq else .gt))) = true := by kernel_rfl
  intro i hi
  have := List.all_eq_true.1 h i (List.mem_range.2 hi)
  simp only [Bool.and_eq_true, beq_iff_eq] at this
  exact ⟨this.1.1.1.1, this.1.1.1.2, this.1.1.2, this.1.2, this.2⟩
theorem sinK_less : ∀ i, i < 8 → fm (.float .f64 (sinK (i + 1))) < fm (.float .f64 (sinK i)) := by
  have h : ((List.range 8).all fun i => decide (fm (.float .f64 (sinK (i + 1))) < fm (.float .f64 (sinK i)))) = true := by kernel_rfl
  intro i hi
  have := List.all_eq_true.1 h i (List.mem_range.2 hi)
  simpa using this
theorem sinK_8 : FloatKind.f64.format.order (sinK 8) one64 = some .lt := by kernel_rfl
theorem sinK_int : ∀ i : Nat, i < 8 → floatOfInt .f64 (wrap64 (2 * (8 - (i : Int)) * (2 * (8 - (i : Int)) + 1))) = sinD i := by
  have h : ((List.range 8).all fun i => floatOfInt .f64 (wrap64 (2 * (8 - ((i : Nat) : Int)) * (2 * (8 - (i : Int)) + 1))) == sinD i) = true := by kernel_rfl
  intro i hi
  have := List.all_eq_true.1 h i (List.mem_range.2 hi)
  simpa using this

/-- Turns of which no whole ones are to be taken away; f is what is left. -/
structure TurnIn (y f0 : Nat) : Prop where
  lt : y < 18446744073709551616
  tr : ∃ z, trunc64 y = some z ∧ FloatKind.f64.format.order z 0 = some .eq
  toI : floatToIntVal .f64 y .i64 = some 0
  self : sub64 y y = some 0
  hi : FloatKind.f64.format.order y 4841369599423283200 = some .lt
  lo : FloatKind.f64.format.order y 14064741636278059008 = some .gt
  abs : FloatKind.f64.format.order (absW y) 4841369599423283200 = some .lt
  sub : sub64 y 0 = some f0
/-- From 0 on, up to a quarter. -/
structure SinIn (y f : Nat) : Prop extends TurnIn y f where
  nneg : (FloatKind.f64.format.order f 0 == some .lt) = false
  half : FloatKind.f64.format.order f half64 = some .lt
  quarter : (FloatKind.f64.format.order f quarter64 == some .gt) = false

/-- float32(math.NaN()): some not-a-number. -/
noncomputable def nanV (w : World) : Nat := (Question.nanConv .f32 9221120237041090561).cut (w.tape w.drawn (Question.nanConv .f32 9221120237041090561))
@[go_sem] theorem conv_nan (w : World) : fcvRun Try.prog 37 34 .f64 9221120237041090561 .f32 (floatToFloatBits .f64 9221120237041090561 .f32) w = .ok (.float .f32 (nanV w)) w.drew := by
  have e : floatToFloatBits .f64 9221120237041090561 .f32 = none := by kernel_rfl
  have hs : Try.prog.underlying 37 = some (.float .f64) := Try.underlying37
  have hd : Try.prog.underlying 34 = some (.float .f32) := Try.underlying34
  have hn : FloatKind.f64.decode 9221120237041090561 = .nan false 2251799813685249 := by kernel_rfl
  have ne : ¬ (FloatKind.f64 = FloatKind.f32) := by decide
  rw [e]
  simp [fcvRun, convert, run_underlying hs, run_underlying hd, Conv.floatToFloat, ne, hn, Question.forced, nanV]

/-- f less q quarters, each taken away on its own. -/
def subQ (f : Nat) : Nat → Option Nat
  | 0 => some f
  | i + 1 => (subQ f i).bind fun g => sub64 g quarter64
structure PhIn (y f0 f g : Nat) (neg : Bool) (q : Nat) : Prop extends TurnIn y f0 where
  hneg : (FloatKind.f64.format.order f0 0 == some .lt) = neg
  hadd : (if neg then add64 f0 one64 else some f0) = some f
  hsub : subQ f q = some g
  hge : ∀ i h, i < q → subQ f i = some h → (FloatKind.f64.format.order h quarter64 == some .gt || FloatKind.f64.format.order h quarter64 == some .eq) = true
  hlt : FloatKind.f64.format.order g quarter64 = some .lt
/-- What is made of the cosine and the sine. -/
def phR (q c s : Nat) : Option (Nat × Nat) :=
  if q = 1 then (sub64 0 s).bind fun a => some (a, c)
  else if q = 2 then (sub64 0 c).bind fun a => (sub64 0 s).bind fun b => some (a, b)
  else if q = 3 then (sub64 0 c).bind fun a => some (s, a)
  else some (c, s)
end Go.Proofs.Ytlhdgbiaiacpfaa
