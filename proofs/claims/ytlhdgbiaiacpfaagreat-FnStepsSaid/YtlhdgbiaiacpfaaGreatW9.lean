/- Contracts of the step by the slope, and of polishing, the program's and the reference's. No condition but that the operations are valid and finite. -/
import Derived.Test.YtlhdgbiaiacpfaaGreatW8
namespace Go.Proofs.YtlhdgbiaiacpfaaGreat
open Go.RowKit

/-- What is asked for a step by the slope: v is the value, s that of the slope ys, q the quotient, r what is returned. -/
structure Step (xs ys : List C) (z v s q r : C) : Prop where
  finz : FinC z
  horner : hornerO xs z = some v
  finv : FinC v
  nz : isZ v = false
  slope : slopeO xs = some ys
  valid : VP ys
  horners : hornerO ys z = some s
  fins : FinC s
  quo : quotO v s = some q
  finq : FinC q
  sub : minusO z q = some r
  finr : FinC r

/-- What is asked where the value is 0. -/
structure AtRoot (xs : List C) (z v : C) : Prop where
  finz : FinC z
  horner : hornerO xs z = some v
  finv : FinC v
  zero : isZ v = true

set_option maxRecDepth 100000 in
set_option maxHeartbeats 1000000 in
theorem impl_SlopeOnce_root (g cap : Nat) (xs : List C) (z v : C) (w : World) (hr : Rd w g xs) (hv : VP xs) (h2 : 2 ≤ xs.length) (hm : AtRoot xs z v) :
    Calls Tryz.prog 14 #[.agg #[.slice (some ⟨g, 0, none⟩) xs.length cap], cv z] w fun e w' => e = .returned (.tuple #[cv z, .bool true]) ∧ Below w.heap.size w w' := by
  obtain ⟨k1, k2, k3, k4⟩ := hm
  have K2 := Lib.hid k2
  clear k2
  go_enter Tryz.func14, Tryz.ntmps14
  go_wp2_with (first
    | (go_at_call 38; refine (impl_isRooted g cap xs _ (hr.alloc _) hv h2).mono ?_; rintro e w1 ⟨rfl, hb1⟩; have hc1 := box_cell hb1; have hr1 := (hr.alloc _).below hb1)
    | (go_at_call 42; refine (impl_allFinite w1.heap.size 1 [z] _ (by simp) (one_rd w1 z _) (one_fin k1)).mono ?_; rintro e w2 ⟨rfl, hb2⟩; have hc2 := (keep1 hb1 hb2).trans hc1; have hr2 := (hr1.alloc _).below hb2; have hbw2 := below_trans (below_alloc hb1) (below_alloc hb2))
    | (go_at_call 25; refine (impl_PolyAt g cap xs z v w2 hr2 hv k1 K2.out k3).mono ?_; rintro e w3 ⟨rfl, hb3⟩))
  go_ret2
  exact ⟨rfl, below_trans hbw2 hb3⟩

set_option maxRecDepth 100000 in
set_option maxHeartbeats 1000000 in
theorem impl_SlopeOnce_step (g cap : Nat) (xs ys : List C) (z v s q r : C) (w : World) (hr : Rd w g xs) (hv : VP xs) (h2 : 2 ≤ xs.length) (hm : Step xs ys z v s q r) :
    Calls Tryz.prog 14 #[.agg #[.slice (some ⟨g, 0, none⟩) xs.length cap], cv z] w fun e w' => e = .returned (.tuple #[cv r, .bool true]) ∧ Below w.heap.size w w' := by
  obtain ⟨k1, k2, k3, k4, k5, k6, k7, k8, k9, k10, k11, k12⟩ := hm
  have K2 := Lib.hid k2
  have K5 := Lib.hid k5
  have K7 := Lib.hid k7
  have K9 := Lib.hid k9
  have K11 := Lib.hid k11
  clear k2 k5 k7 k9 k11
  go_enter Tryz.func14, Tryz.ntmps14
  go_wp2_with (first
    | (go_at_call 38; refine (impl_isRooted g cap xs _ (hr.alloc _) hv h2).mono ?_; rintro e w1 ⟨rfl, hb1⟩; have hc1 := box_cell hb1; have hr1 := (hr.alloc _).below hb1)
    | (go_at_call 42; refine (impl_allFinite w1.heap.size 1 [z] _ (by simp) (one_rd w1 z _) (one_fin k1)).mono ?_; rintro e w2 ⟨rfl, hb2⟩; have hc2 := (keep1 hb1 hb2).trans hc1; have hr2 := (hr1.alloc _).below hb2; have hbw2 := below_trans (below_alloc hb1) (below_alloc hb2))
    | (go_at_call 25; (with_reducible refine (impl_PolyAt g cap xs z v w2 hr2 hv k1 K2.out k3).mono ?_); rintro e w3 ⟨rfl, hb3⟩; have hc3 := kc hb3 hc2; have hr3 := hr2.below hb3; have hbw3 := below_trans hbw2 hb3)
    | (go_at_call 47; refine (impl_SlopePoly g cap xs ys w3 hr3 hv K5.out k6).mono ?_; rintro e w4 ⟨g4, cap4, rfl, hg4, hr4, hb4, hcap4⟩; have hbw4 := below_trans hbw3 hb4; have hc5 := new_cell w4 (.slice (some ⟨g4, 0, none⟩) ys.length cap4) 28)
    | (go_at_call 25; (with_reducible refine (impl_PolyAt g4 cap4 ys z s _ (hr4.alloc _) k6 k1 K7.out k8).mono ?_); rintro e w5 ⟨rfl, hb5⟩; have hbw5 := below_trans hbw4 (below_alloc hb5))
    | (go_at_call 48; refine (impl_QuotientOf v s q K9.out _).mono ?_; rintro e w' ⟨rfl, rfl⟩)
    | (go_at_call 42; refine (impl_allFinite w5.heap.size 1 [q] _ (by simp) (one_rd w5 q _) (one_fin k10)).mono ?_; rintro e w6 ⟨rfl, hb6⟩; have hbw6 := below_trans hbw5 (below_alloc hb6))
    | (go_at_call 50; refine (impl_minus z q r K11.out _).mono ?_; rintro e w' ⟨rfl, rfl⟩)
    | (go_at_call 49; refine (impl_finite r k12 _).mono ?_; rintro e w7 ⟨rfl, hb7⟩))
  go_ret2
  exact ⟨rfl, below_trans hbw6 hb7⟩

theorem impl_within (n a b : Int) (w : World) (h1 : a ≤ n) (h2 : n ≤ b) :
    Calls Tryz.prog 43 #[.int .i64 n, .int .i64 a, .int .i64 b] w fun e w' => e = .returned (.bool true) ∧ w = w' := by
  go_enter Tryz.func43, Tryz.ntmps43
  go_wp2
  all_goals (go_ret; exact ⟨rfl, rfl⟩)
theorem spec_l00In (n a b : Int) (w : World) (h1 : a ≤ n) (h2 : n ≤ b) :
    Calls Tryz.prog 79 #[.int .i64 n, .int .i64 a, .int .i64 b] w fun e w' => e = .returned (.bool true) ∧ w = w' := by
  go_enter Tryz.func79, Tryz.ntmps79
  go_wp2
  all_goals (go_ret; exact ⟨rfl, rfl⟩)
theorem spec_l05Times (n a : Int) (w : World) (h1 : a ≤ n) (h2 : n ≤ 64) :
    Calls Tryz.prog 45 #[.int .i64 n, .int .i64 a] w fun e w' => e = .returned (.bool true) ∧ w = w' := by
  go_enter Tryz.func45, Tryz.ntmps45
  go_wp2_with (go_at_call 79; refine (spec_l00In n a 64 _ h1 h2).mono ?_; rintro e w' ⟨rfl, rfl⟩)
  all_goals (go_ret; exact ⟨rfl, rfl⟩)

set_option maxRecDepth 100000 in
set_option maxHeartbeats 1000000 in
theorem impl_PolishRoot_root (g cap : Nat) (xs : List C) (z v : C) (w : World) (hr : Rd w g xs) (hv : VP xs) (h2 : 2 ≤ xs.length) (hm : AtRoot xs z v) :
    Calls Tryz.prog 12 #[.agg #[.slice (some ⟨g, 0, none⟩) xs.length cap], cv z, .int .i64 1] w fun e w' => e = .returned (.tuple #[cv z, .bool true]) ∧ Below w.heap.size w w' := by
  have k1 := hm.finz
  go_enter Tryz.func12, Tryz.ntmps12
  go_wp2_with (first
    | (go_at_call 38; refine (impl_isRooted g cap xs _ (hr.alloc _) hv h2).mono ?_; rintro e w1 ⟨rfl, hb1⟩; have hc1 := box_cell hb1; have hr1 := (hr.alloc _).below hb1)
    | (go_at_call 42; refine (impl_allFinite w1.heap.size 1 [z] _ (by simp) (one_rd w1 z _) (one_fin k1)).mono ?_; rintro e w2 ⟨rfl, hb2⟩; have hc2 := (keep1 hb1 hb2).trans hc1; have hr2 := (hr1.alloc _).below hb2; have hbw2 := below_trans (below_alloc hb1) (below_alloc hb2))
    | (go_at_call 43; refine (impl_within 1 0 64 _ (by omega) (by omega)).mono ?_; rintro e w' ⟨rfl, rfl⟩))
  refine wp_loop_rounds 2 ?_
  rw [rounds_succ]
  go_wp2_with (go_at_call 14; refine (impl_SlopeOnce_root g cap xs z v w2 hr2 hv h2 hm).mono ?_; rintro e w3 ⟨rfl, hb3⟩)
  rw [rounds_succ]
  go_wp2
  go_ret2
  exact ⟨rfl, below_trans hbw2 hb3⟩
end Go.Proofs.YtlhdgbiaiacpfaaGreat
