/- Contracts of the phasor and of the root of a complex number, the program's and the reference's. No condition but that the operations are valid, and where the turns lie. -/
import Derived.Test.YtlhdgbiaiacpfaaW14
namespace Go.Proofs.Ytlhdgbiaiacpfaa
open Go.RowKit

structure Phas (y f0 f g : Nat) (neg : Bool) (q yc fc c fs s a b : Nat) (r : C) : Prop where
  inn : PhIn y f0 f g neg q
  hq : q = 0 ∨ q = 3 ∨ q = 4
  quarter : sub64 quarter64 g = some yc
  cin : SinIn yc fc
  cos : sinO fc = some c
  sin_ : SinIn g fs
  sine : sinO fs = some s
  res : phR q c s = some (a, b)
  narrow : narC (a, b) = some r

theorem below_drew {w w' : World} (h : Below w.drew.heap.size w.drew w') : Below w.heap.size w w' := ⟨h.os, h.tape, h.output, h.size, h.block⟩

theorem subQ_step {f q g i v : Nat} (hs : subQ f q = some g) (hi : i < q) (hv : subQ f i = some v) : ∃ v', sub64 v quarter64 = some v' ∧ subQ f (i + 1) = some v' := by
  have key : ∀ n r, subQ f n = some r → i + 1 ≤ n → ∃ v', sub64 v quarter64 = some v' ∧ subQ f (i + 1) = some v' := by
    intro n
    induction n with
    | zero => intro r _ h; omega
    | succ n ih =>
      intro r hr hle
      by_cases e : n = i
      · subst e
        have hr' := hr
        simp only [subQ, hv, Option.bind_some] at hr'
        exact ⟨r, hr', hr⟩
      · simp only [subQ, Option.bind_eq_some_iff] at hr
        obtain ⟨r', hr', _⟩ := hr
        exact ih r' hr' (by omega)
  exact key q g hs (by omega)

/-- The angle, as the reference asks. -/
def SAngleIs (z : C) (r : Nat) : Prop :=
  (ZeroIs z ∧ r = 0) ∨
  ∃ wy wx q t0 t1 t2 t3 u p g g1 g2 g3 ov xn yn, AngIn z.2 z.1 wy wx xn yn ∧ Ang (absW wy) (absW wx) q t0 t1 t2 t3 u p g g1 g2 g3 ov xn yn ∧ nar g3 = some r
theorem spec_AngleOf_is (z : C) (r : Nat) (w : World) (h : SAngleIs z r) :
    Calls Try.prog 92 #[cv z] w fun e w' => e = .returned (.float .f32 r) ∧ w = w' := by
  rcases h with ⟨h, rfl⟩ | ⟨wy, wx, q, t0, t1, t2, t3, u, p, g, g1, g2, g3, ov, xn, yn, hi, ha, hr⟩
  · exact spec_AngleOf_zero z w h
  · exact spec_AngleOf z _ _ _ _ _ _ _ _ _ _ _ _ _ _ _ _ _ w hi ha hr

/-- A root of x: the number whose length is the root of that of x, and whose angle is half of it. -/
structure RootIs (x r : C) (an hn yn : Nat) (ph : C) (l ly sl rt : Nat) : Prop where
  ang : AngleIs x an
  sang : SAngleIs x an
  halved : mul32 1056964608 an = some hn
  wide : wid hn = some yn
  phas : ∃ f0 f g neg q yc fc c fs s a b, Phas yn f0 f g neg q yc fc c fs s a b ph
  long : longO x = some l
  widel : wid l = some ly
  root : sqrt64 ly = some sl
  nroot : nar sl = some rt
  scale : scaleO ph rt = some r

theorem impl_degree (g n cap : Nat) (w : World) (hn : n ≤ 1000) :
    Calls Try.prog 23 #[.agg #[.slice (some ⟨g, 0, none⟩) n cap]] w fun e w' => e = .returned (.int .i64 ((n : Int) - 1)) ∧ Below w.heap.size w w' := by
  go_enter Try.func23, Try.ntmps23
  go_wp2
  go_ret
  exact ⟨rfl, (Below.refl _ _).alloc (Nat.le_refl _) _⟩
end Go.Proofs.Ytlhdgbiaiacpfaa
