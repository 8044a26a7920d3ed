/- Contracts of Laguerre's step, the program's and the reference's. No condition but that the operations are valid and finite. -/
import Derived.Test.YtlhdgbiaiacpfaaW15
namespace Go.Proofs.Ytlhdgbiaiacpfaa
open Go.RowKit

/-- What is asked of Laguerre's step; r is the root, g and h the two sums, gg the longer one. -/
structure Lag (n : Nat) (z v s t : C) (a c sq b e f : C) (d1 : Nat) (x r g h : C) (lg lh : Nat) (gg q rr : C) (big : Bool) : Prop where
  a_ : quotO s v = some a
  c_ : quotO t v = some c
  fa : FinC a
  fc : FinC c
  sq_ : mulO a a = some sq
  b_ : minusO sq c = some b
  e_ : scaleO b (floatOfInt .f32 ((n : Int) - 1)) = some e
  f_ : minusO e sq = some f
  d1_ : sub32 (floatOfInt .f32 ((n : Int) - 1)) 1065353216 = some d1
  x_ : scaleO f d1 = some x
  fx : FinC x
  r_ : ∃ an hn yn ph l ly sl rt, RootIs x r an hn yn ph l ly sl rt
  g_ : plusO a r = some g
  h_ : minusO a r = some h
  lg_ : longO g = some lg
  lh_ : longO h = some lh
  big_ : (FloatKind.f32.format.order lh lg == some .gt) = big
  gg_ : gg = if big then h else g
  q_ : quotO (floatOfInt .f32 ((n : Int) - 1), 0) gg = some q
  fq : FinC q
  rr_ : minusO z q = some rr
  frr : FinC rr

theorem three_rd (w : World) (x y z : C) (T : TypeId) : Rd (w.alloc (.cells #[cv x, cv y, cv z] T)) w.heap.size [x, y, z] := by
  refine ⟨by simp, fun k hk => ?_⟩
  rw [cell_of_row _ _ _ _ _ _ (heap_alloc_new w _)]
  obtain rfl | rfl | rfl : k = 0 ∨ k = 1 ∨ k = 2 := by simp at hk; omega
  all_goals rfl
theorem three_fin {x y z : C} (h1 : FinC x) (h2 : FinC y) (h3 : FinC z) : AllFin [x, y, z] := by
  intro k hk
  obtain rfl | rfl | rfl : k = 0 ∨ k = 1 ∨ k = 2 := by simp at hk; omega
  · exact h1
  · exact h2
  · exact h3

end Go.Proofs.Ytlhdgbiaiacpfaa
