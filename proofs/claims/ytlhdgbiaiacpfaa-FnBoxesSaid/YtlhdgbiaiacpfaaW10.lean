/- Contracts of the reference's values and polishing, and of the program's values and the step by two slopes. No condition but that the operations are valid and finite. -/
import Derived.Test.YtlhdgbiaiacpfaaW9
namespace Go.Proofs.Ytlhdgbiaiacpfaa
open Go.RowKit

theorem below_own {w w1 : World} {o : Obj} (h : Below w.heap.size w w1) : Below w.heap.size w (w1.alloc o) := h.alloc h.size o

/-- The values of a polynomial, of its slope ys, and of the slope zs of this, where none is 0 that must not. -/
structure Vals (xs ys zs : List C) (z v s t : C) : Prop where
  finz : FinC z
  horner : hornerO xs z = some v
  finv : FinC v
  nz : isZ v = false
  slope : slopeO xs = some ys
  valid : VP ys
  horners : hornerO ys z = some s
  fins : FinC s
  slope2 : slopeO ys = some zs
  valid2 : VP zs
  hornert : hornerO zs z = some t
  fint : FinC t

/-- What is asked of a step by two slopes. -/
structure Hal (z v s t vs a ss b vt d q r : C) : Prop where
  h1 : mulO v s = some vs
  h2 : scaleO vs 1073741824 = some a
  h3 : mulO s s = some ss
  h4 : scaleO ss 1073741824 = some b
  h5 : mulO v t = some vt
  h6 : minusO b vt = some d
  h7 : quotO a d = some q
  h8 : FinC q
  h9 : minusO z q = some r
  h10 : FinC r

end Go.Proofs.Ytlhdgbiaiacpfaa
