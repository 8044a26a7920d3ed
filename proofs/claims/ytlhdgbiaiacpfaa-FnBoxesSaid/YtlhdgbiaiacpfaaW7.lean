/- Contracts of what a polynomial misses at a number, the program's and the reference's. No condition but that the operations are valid and finite. -/
import Derived.Test.YtlhdgbiaiacpfaaW6
namespace Go.Proofs.Ytlhdgbiaiacpfaa
open Go.RowKit

theorem impl_checked (x : Nat) (h : Fin x) (w : World) :
    Calls Try.prog 33 #[.float .f32 x] w fun e w' => e = .returned (.tuple #[.float .f32 x, .bool true]) ∧ w = w' := by
  go_enter Try.func33, Try.ntmps33
  go_wp2_with (go_at_call 58; refine (impl_IsFinite x h _).mono ?_; rintro e w' ⟨rfl, rfl⟩)
  go_ret2
  exact ⟨rfl, rfl⟩
theorem spec_l02Number (x : Nat) (h : Fin x) (w : World) :
    Calls Try.prog 93 #[.float .f32 x] w fun e w' => e = .returned (.tuple #[.float .f32 x, .bool true]) ∧ w = w' := by
  go_enter Try.func93, Try.ntmps93
  go_wp2_with (go_at_call 64; refine (spec_l01Finite x h _).mono ?_; rintro e w' ⟨rfl, rfl⟩)
  go_ret2
  exact ⟨rfl, rfl⟩
/-- p times l, k times. -/
def powO (p l : Nat) : Nat → Option Nat
  | 0 => some p
  | k + 1 => (powO p l k).bind fun q => mul32 q l
/-- The sum over the first k terms. -/
def sumO (xs : List C) (l : Nat) : Nat → Option Nat
  | 0 => some 0
  | k + 1 => (sumO xs l k).bind fun s => (longO (at_ xs k)).bind fun p => (powO p l k).bind fun q => add32 s q
def allO (xs : List C) (z : C) : Option Nat := (longO z).bind fun l => sumO xs l xs.length

theorem powO_some {p l r : Nat} : ∀ {n j : Nat}, powO p l n = some r → j ≤ n → ∃ v, powO p l j = some v := by
  intro n j
  induction n generalizing r with
  | zero => intro h hj; obtain rfl : j = 0 := by omega
            exact ⟨r, h⟩
  | succ n ih =>
    intro h hj
    by_cases e : j = n + 1
    · subst e; exact ⟨r, h⟩
    · simp only [powO, Option.bind_eq_some_iff] at h
      obtain ⟨v, hv, _⟩ := h
      exact ih hv (by omega)
theorem powO_succ {p l r n j : Nat} (h : powO p l n = some r) (hj : j < n) {v : Nat} (hv : powO p l j = some v) : ∃ u, mul32 v l = some u ∧ powO p l (j + 1) = some u := by
  obtain ⟨u, hu⟩ := powO_some h (j := j + 1) (by omega)
  have hu' := hu
  simp only [powO, hv, Option.bind_some] at hu'
  exact ⟨u, hu', hu⟩
theorem sumO_some {xs : List C} {l r : Nat} : ∀ {n j : Nat}, sumO xs l n = some r → j ≤ n → ∃ v, sumO xs l j = some v := by
  intro n j
  induction n generalizing r with
  | zero => intro h hj; obtain rfl : j = 0 := by omega
            exact ⟨r, h⟩
  | succ n ih =>
    intro h hj
    by_cases e : j = n + 1
    · subst e; exact ⟨r, h⟩
    · simp only [sumO, Option.bind_eq_some_iff] at h
      obtain ⟨v, hv, _⟩ := h
      exact ih hv (by omega)
theorem sumO_succ {xs : List C} {l r n j : Nat} (h : sumO xs l n = some r) (hj : j < n) {v : Nat} (hv : sumO xs l j = some v) :
    ∃ p q u, longO (at_ xs j) = some p ∧ powO p l j = some q ∧ add32 v q = some u ∧ sumO xs l (j + 1) = some u := by
  obtain ⟨u, hu⟩ := sumO_some h (j := j + 1) (by omega)
  have hu' := hu
  simp only [sumO, hv, Option.bind_some, Option.bind_eq_some_iff] at hu'
  obtain ⟨p, hp, q, hq, ha⟩ := hu'
  exact ⟨p, q, u, hp, hq, ha, hu⟩

/-- What is asked of a polynomial and a number for 'MissAt'. -/
structure Miss (xs : List C) (z v : C) (l lv a q : Nat) (b : Bool) : Prop where
  horner : hornerO xs z = some v
  fin : FinC v
  finz : FinC z
  long : longO z = some l
  longv : longO v = some lv
  all : sumO xs l xs.length = some a
  fina : Fin a
  above : FloatKind.f32.format.order a 0 = some (if b then .gt else .eq)
  quo : b = true → div32 lv a = some q ∧ Fin q

theorem ret_ff {a b : Nat} (h : a = b) : Ending.returned (.tuple #[.float .f32 a, .bool true]) = .returned (.tuple #[.float .f32 b, .bool true]) := by rw [h]

def allTo (bs : Nat → Bool) : Nat → Bool
  | 0 => true
  | k + 1 => allTo bs k && bs k
theorem allTo_false {bs : Nat → Bool} {k : Nat} (h : bs k = false) : ∀ n, k < n → allTo bs n = false := by
  intro n
  induction n with
  | zero => intro h; omega
  | succ n ih =>
    intro hn
    by_cases e : k = n
    · subst e; simp [allTo, h]
    · simp [allTo, ih (by omega)]
theorem ret_fb {b c : Bool} (h : b = c) : Ending.returned (.tuple #[.float .f32 0, .bool b]) = .returned (.tuple #[.float .f32 0, .bool c]) := by rw [h]

end Go.Proofs.Ytlhdgbiaiacpfaa
