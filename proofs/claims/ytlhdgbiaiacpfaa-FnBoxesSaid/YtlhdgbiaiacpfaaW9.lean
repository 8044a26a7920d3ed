/- Contracts of the step by the slope, and of polishing, the program's and the reference's. No condition but that the operations are valid and finite. -/
import Derived.Test.YtlhdgbiaiacpfaaW8
namespace Go.Proofs.Ytlhdgbiaiacpfaa
open Go.RowKit

/-- What is asked for a step by the slope: v is the value, s that of the slope ys, q the quotient, r what is returned. -/
structure Step (xs ys : List C) (z v s q r : C) : Prop where
  finz : FinC z
  horner : hornerO xs z = some v
  finv : FinC v
  nz : isZ v = false
  slope : slopeO xs = some ys
  valid : VP ys
  horners : hornerO ys z = some s
  fins : FinC s
  quo : quotO v s = some q
  finq : FinC q
  sub : minusO z q = some r
  finr : FinC r

/-- What is asked where the value is 0. -/
structure AtRoot (xs : List C) (z v : C) : Prop where
  finz : FinC z
  horner : hornerO xs z = some v
  finv : FinC v
  zero : isZ v = true

theorem impl_within (n a b : Int) (w : World) (h1 : a ≤ n) (h2 : n ≤ b) :
    Calls Try.prog 26 #[.int .i64 n, .int .i64 a, .int .i64 b] w fun e w' => e = .returned (.bool true) ∧ w = w' := by
  go_enter Try.func26, Try.ntmps26
  go_wp2
  all_goals (go_ret; exact ⟨rfl, rfl⟩)
theorem spec_l00In (n a b : Int) (w : World) (h1 : a ≤ n) (h2 : n ≤ b) :
    Calls Try.prog 37 #[.int .i64 n, .int .i64 a, .int .i64 b] w fun e w' => e = .returned (.bool true) ∧ w = w' := by
  go_enter Try.func37, Try.ntmps37
  go_wp2
  all_goals (go_ret; exact ⟨rfl, rfl⟩)
end Go.Proofs.Ytlhdgbiaiacpfaa
