/- Contracts of Laguerre's step, the program's and the reference's. No condition but that the operations are valid and finite. -/
import Derived.Test.YtlhdgbiaiacpfaaGreatW15
namespace Go.Proofs.YtlhdgbiaiacpfaaGreat
open Go.RowKit

/-- What is asked of Laguerre's step; r is the root, g and h the two sums, gg the longer one. -/
structure Lag (n : Nat) (z v s t : C) (a c sq b e f : C) (d1 : Nat) (x r g h : C) (lg lh : Nat) (gg q rr : C) (big : Bool) : Prop where
  a_ : quotO s v = some a
  c_ : quotO t v = some c
  fa : FinC a
  fc : FinC c
  sq_ : mulO a a = some sq
  b_ : minusO sq c = some b
  e_ : scaleO b (floatOfInt .f32 ((n : Int) - 1)) = some e
  f_ : minusO e sq = some f
  d1_ : sub32 (floatOfInt .f32 ((n : Int) - 1)) 1065353216 = some d1
  x_ : scaleO f d1 = some x
  fx : FinC x
  r_ : ∃ an hn yn ph l ly sl rt, RootIs x r an hn yn ph l ly sl rt
  g_ : plusO a r = some g
  h_ : minusO a r = some h
  lg_ : longO g = some lg
  lh_ : longO h = some lh
  big_ : (FloatKind.f32.format.order lh lg == some .gt) = big
  gg_ : gg = if big then h else g
  q_ : quotO (floatOfInt .f32 ((n : Int) - 1), 0) gg = some q
  fq : FinC q
  rr_ : minusO z q = some rr
  frr : FinC rr

theorem three_rd (w : World) (x y z : C) (T : TypeId) : Rd (w.alloc (.cells #[cv x, cv y, cv z] T)) w.heap.size [x, y, z] := by
  refine ⟨by simp, fun k hk => ?_⟩
  rw [cell_of_row _ _ _ _ _ _ (heap_alloc_new w _)]
  obtain rfl | rfl | rfl : k = 0 ∨ k = 1 ∨ k = 2 := by simp at hk; omega
  all_goals rfl
theorem three_fin {x y z : C} (h1 : FinC x) (h2 : FinC y) (h3 : FinC z) : AllFin [x, y, z] := by
  intro k hk
  obtain rfl | rfl | rfl : k = 0 ∨ k = 1 ∨ k = 2 := by simp at hk; omega
  · exact h1
  · exact h2
  · exact h3

set_option maxRecDepth 100000 in
set_option maxHeartbeats 4000000 in
theorem impl_LaguerreOnce (gg0 cap : Nat) (xs ys zs : List C) (z v s t a c sq b e f : C) (d1 : Nat) (x r g h : C) (lg lh : Nat) (gg q rr : C) (big : Bool) (w : World) (hr : Rd w gg0 xs) (hv : VP xs) (h2 : 2 ≤ xs.length)
    (hm : Vals xs ys zs z v s t) (hl : Lag xs.length z v s t a c sq b e f d1 x r g h lg lh gg q rr big) :
    Calls Tryz.prog 16 #[.agg #[.slice (some ⟨gg0, 0, none⟩) xs.length cap], cv z] w fun e w' => e = .returned (.tuple #[cv rr, .bool true]) ∧ Below w.heap.size w w' := by
  obtain ⟨k1, k2, k3, k4, k5, k6, k7, k8, k9, k10, k11, ⟨an, hn, yn, ph, l, ly, sl, rt, k12⟩, k13, k14, k15, k16, k17, k18, k19, k20, k21, k22⟩ := hl
  have hmost := hv.most
  have K1 := Lib.hid k1
  have K2 := Lib.hid k2
  have K5 := Lib.hid k5
  have K6 := Lib.hid k6
  have K7 := Lib.hid k7
  have K8 := Lib.hid k8
  have K10 := Lib.hid k10
  have K13 := Lib.hid k13
  have K14 := Lib.hid k14
  have K15 := Lib.hid k15
  have K16 := Lib.hid k16
  have K19 := Lib.hid k19
  have K21 := Lib.hid k21
  unfold sub32 at k9
  clear k1 k2 k5 k6 k7 k8 k10 k13 k14 k15 k16 k19 k21
  cases big <;> simp only [Bool.false_eq_true, if_false, if_true] at k18 <;> subst k18
  all_goals
    go_enter Tryz.func16, Tryz.ntmps16
    go_wp2_with (first
      | (go_at_call 38; refine (impl_isRooted gg0 cap xs _ (hr.alloc _) hv h2).mono ?_; rintro e w1 ⟨rfl, hb1⟩; have hc1 := box_cell hb1; have hr1 := (hr.alloc _).below hb1; have hbw1 := below_alloc hb1)
      | (go_at_call 51; refine (impl_isRootAt gg0 cap xs z v false w1 hr1 hv hm.finz hm.horner hm.finv hm.nz).mono ?_; rintro e w2 ⟨rfl, hb2⟩; have hc2 := kc hb2 hc1; have hr2 := hr1.below hb2; have hbw2 := below_trans hbw1 hb2)
      | (go_at_call 52; refine (impl_valuesAt gg0 cap xs ys zs z v s t w2 hr2 hv h2 hm).mono ?_; rintro e w3 ⟨rfl, hb3⟩; have hc3 := kc hb3 hc2; have hbw3 := below_trans hbw2 hb3)
      | (go_at_call 55; refine (impl_degree gg0 xs.length cap w3 (by omega)).mono ?_; rintro e w4 ⟨rfl, hb4⟩; have hbw4 := below_trans hbw3 hb4)
      | (go_at_call 48; (with_reducible refine (impl_QuotientOf s v a K1.out _).mono ?_); rintro e w' ⟨rfl, rfl⟩)
      | (go_at_call 48; (with_reducible refine (impl_QuotientOf t v c K2.out _).mono ?_); rintro e w' ⟨rfl, rfl⟩)
      | (go_at_call 54; (with_reducible refine (impl_MulComplex a a sq K5.out _).mono ?_); rintro e w' ⟨rfl, rfl⟩)
      | (go_at_call 50; (with_reducible refine (impl_minus sq c b K6.out _).mono ?_); rintro e w' ⟨rfl, rfl⟩)
      | (go_at_call 53; (with_reducible refine (impl_ScaleComplex b _ _ K7.out _).mono ?_); rintro e w' ⟨rfl, rfl⟩)
      | (go_at_call 50; (with_reducible refine (impl_minus _ sq f K8.out _).mono ?_); rintro e w' ⟨rfl, rfl⟩)
      | (go_at_call 53; (with_reducible refine (impl_ScaleComplex f _ _ K10.out _).mono ?_); rintro e w' ⟨rfl, rfl⟩)
      | (go_at_call 56; refine (impl_rootOf x r an hn yn ph l ly sl rt _ k12).mono ?_; rintro e w5 ⟨rfl, hb5⟩; have hbw5 := below_trans hbw4 hb5)
      | (go_at_call 57; (with_reducible refine (impl_plus a r _ K13.out _).mono ?_); rintro e w' ⟨rfl, rfl⟩)
      | (go_at_call 50; (with_reducible refine (impl_minus a r _ K14.out _).mono ?_); rintro e w' ⟨rfl, rfl⟩)
      | (go_at_call 58; (with_reducible refine (impl_LongOf _ lg K15.out _).mono ?_); rintro e w' ⟨rfl, rfl⟩)
      | (go_at_call 58; (with_reducible refine (impl_LongOf _ lh K16.out _).mono ?_); rintro e w' ⟨rfl, rfl⟩)
      | (go_at_call 48; refine (impl_QuotientOf _ _ q K19.out _).mono ?_; rintro e w' ⟨rfl, rfl⟩)
      | (go_at_call 42; refine (impl_allFinite w5.heap.size 3 [a, c, q] _ (by simp) (three_rd w5 a c q _) (three_fin k3 k4 k20)).mono ?_; rintro e w6 ⟨rfl, hb6⟩; have hbw6 := below_trans hbw5 (below_alloc hb6))
      | (go_at_call 50; (with_reducible refine (impl_minus z q rr K21.out _).mono ?_); rintro e w' ⟨rfl, rfl⟩)
      | (go_at_call 49; refine (impl_finite rr k22 _).mono ?_; rintro e w7 ⟨rfl, hb7⟩))
    go_ret2
    exact ⟨rfl, below_trans hbw6 hb7⟩

set_option maxRecDepth 100000 in
set_option maxHeartbeats 4000000 in
theorem spec_l05Laguerre (bp gg0 cap : Nat) (xs ys zs : List C) (z v s t a c sq b e f : C) (d1 : Nat) (x r g h : C) (lg lh : Nat) (gg q rr : C) (big : Bool) (w : World)
    (hp : w.cell? ⟨bp, 0, none⟩ = some (.slice (some ⟨gg0, 0, none⟩) xs.length cap)) (hr : Rd w gg0 xs) (hv : VP xs)
    (hm : Vals xs ys zs z v s t) (hl : Lag xs.length z v s t a c sq b e f d1 x r g h lg lh gg q rr big) :
    Calls Tryz.prog 59 #[.pointer (some ⟨bp, 0, none⟩), cv z] w fun e w' => e = .returned (.tuple #[cv rr, .bool true]) ∧ Below w.heap.size w w' := by
  obtain ⟨k1, k2, k3, k4, k5, k6, k7, k8, k9, k10, k11, ⟨an, hn, yn, ph, l, ly, sl, rt, k12⟩, k13, k14, k15, k16, k17, k18, k19, k20, k21, k22⟩ := hl
  obtain ⟨_, r1, r2, r3, ⟨f0, ff, fg, neg, qn, yc, fcn, cn, fs, sn, an1, bn1, r4⟩, r5, r6, r7, r8, r9⟩ := k12
  have hmost := hv.most
  have k1nz := hm.nz
  have K1 := Lib.hid k1
  have K2 := Lib.hid k2
  have K5 := Lib.hid k5
  have K7 := Lib.hid k7
  have K10 := Lib.hid k10
  have K15 := Lib.hid k15
  have K16 := Lib.hid k16
  have K19 := Lib.hid k19
  have R5 := Lib.hid r5
  have R6 := Lib.hid r6
  have R7 := Lib.hid r7
  have R8 := Lib.hid r8
  have R9 := Lib.hid r9
  unfold sub32 at k9
  unfold mul32 at r2
  unfold wid at r3
  clear k1 k2 k5 k7 k10 k15 k16 k19 r5 r6 r7 r8 r9
  cases big <;> simp only [Bool.false_eq_true, if_false, if_true] at k18 <;> subst k18
  all_goals
    go_enter Tryz.func59, Tryz.ntmps59
    go_wp2_with (first
      | (go_at_call 107; refine (spec_l05Values bp gg0 cap xs ys zs z v s t w hp hr hv hm).mono ?_; rintro e w3 ⟨rfl, hb3⟩; have hc3 := kc hb3 hp)
      | (go_at_call 108; (with_reducible refine (spec_l01Quotient s v a K1.out _).mono ?_); rintro e w' ⟨rfl, rfl⟩)
      | (go_at_call 108; (with_reducible refine (spec_l01Quotient t v c K2.out _).mono ?_); rintro e w' ⟨rfl, rfl⟩)
      | (go_at_call 64; (with_reducible refine (spec_l01CFinite a k3 _).mono ?_); rintro e w' ⟨rfl, rfl⟩)
      | (go_at_call 64; (with_reducible refine (spec_l01CFinite c k4 _).mono ?_); rintro e w' ⟨rfl, rfl⟩)
      | (go_at_call 75; (with_reducible refine (spec_l01Mul a a sq K5.out _).mono ?_); rintro e w' ⟨rfl, rfl⟩)
      | (go_at_call 109; (with_reducible refine (spec_l02Times b _ _ K7.out _).mono ?_); rintro e w' ⟨rfl, rfl⟩)
      | (go_at_call 109; (with_reducible refine (spec_l02Times f _ _ K10.out _).mono ?_); rintro e w' ⟨rfl, rfl⟩)
      | (go_at_call 64; (with_reducible refine (spec_l01CFinite x k11 _).mono ?_); rintro e w' ⟨rfl, rfl⟩)
      | (go_at_call 110; refine (spec_AngleOf_is x an _ r1).mono ?_; rintro e w' ⟨rfl, rfl⟩)
      | (go_at_call 112; refine (spec_l01Phasor yn f0 ff fg neg qn yc fcn cn fs sn an1 bn1 ph _ r4).mono ?_; rintro e w' ⟨rfl, rfl⟩)
      | (go_at_call 60; (with_reducible refine (spec_l01Long x l R5.out _).mono ?_); rintro e w' ⟨rfl, rfl⟩)
      | (go_at_call 113; refine (spec_l01Sqrt l ly sl rt R6.out R7.out R8.out _).mono ?_; rintro e w' ⟨rfl, rfl⟩)
      | (go_at_call 111; refine (spec_l01Scale ph r rt R9.out _).mono ?_; rintro e w' ⟨rfl, rfl⟩)
      | (go_at_call 60; (with_reducible refine (spec_l01Long _ lg K15.out _).mono ?_); rintro e w' ⟨rfl, rfl⟩)
      | (go_at_call 60; (with_reducible refine (spec_l01Long _ lh K16.out _).mono ?_); rintro e w' ⟨rfl, rfl⟩)
      | (go_at_call 108; refine (spec_l01Quotient _ _ q K19.out _).mono ?_; rintro e w' ⟨rfl, rfl⟩)
      | (go_at_call 64; (with_reducible refine (spec_l01CFinite q k20 _).mono ?_); rintro e w' ⟨rfl, rfl⟩)
      | (go_at_call 114; refine (spec_l05Number rr k22 _).mono ?_; rintro e w' ⟨rfl, rfl⟩))
    go_ret2
    exact ⟨rfl, hb3⟩

theorem spec_LaguerreOnce (gg0 cap : Nat) (xs ys zs : List C) (z v s t a c sq b e f : C) (d1 : Nat) (x r g h : C) (lg lh : Nat) (gg q rr : C) (big : Bool) (w : World)
    (hr : Rd w gg0 xs) (hv : VP xs) (h2 : 2 ≤ xs.length) (hm : Vals xs ys zs z v s t) (hl : Lag xs.length z v s t a c sq b e f d1 x r g h lg lh gg q rr big) :
    Calls Tryz.prog 17 #[.agg #[.slice (some ⟨gg0, 0, none⟩) xs.length cap], cv z] w fun e w' => e = .returned (.tuple #[cv rr, .bool true]) ∧ Below w.heap.size w w' := by
  have hp := new_cell w (.slice (some ⟨gg0, 0, none⟩) xs.length cap) 28
  have hr0 := hr.alloc (.cells #[.slice (some ⟨gg0, 0, none⟩) xs.length cap] 28)
  go_enter Tryz.func17, Tryz.ntmps17
  go_wp2_with (first
    | (go_at_call 44; refine (spec_l05Can _ gg0 cap xs z _ hp hr0 hv h2 hm.finz).mono ?_; rintro e w' ⟨rfl, rfl⟩)
    | (go_at_call 59; refine (spec_l05Laguerre _ gg0 cap xs ys zs z v s t a c sq b e f d1 x r g h lg lh gg q rr big _ hp hr0 hv hm hl).mono ?_; rintro e w1 ⟨rfl, hb1⟩))
  go_ret2
  exact ⟨rfl, below_alloc hb1⟩
end Go.Proofs.YtlhdgbiaiacpfaaGreat
