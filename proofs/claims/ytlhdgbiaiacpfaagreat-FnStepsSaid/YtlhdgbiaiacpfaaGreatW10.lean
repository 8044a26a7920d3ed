/- Contracts of the reference's values and polishing, and of the program's values and the step by two slopes. No condition but that the operations are valid and finite. -/
import Derived.Test.YtlhdgbiaiacpfaaGreatW9
namespace Go.Proofs.YtlhdgbiaiacpfaaGreat
open Go.RowKit

theorem below_own {w w1 : World} {o : Obj} (h : Below w.heap.size w w1) : Below w.heap.size w (w1.alloc o) := h.alloc h.size o

set_option maxRecDepth 100000 in
set_option maxHeartbeats 1000000 in
theorem spec_l05Values_root (bp g cap : Nat) (xs : List C) (z v : C) (b : Bool) (w : World) (hp : w.cell? ⟨bp, 0, none⟩ = some (.slice (some ⟨g, 0, none⟩) xs.length cap)) (hr : Rd w g xs) (hv : VP xs) (hm : AtRoot xs z v) :
    Calls Tryz.prog 107 #[.pointer (some ⟨bp, 0, none⟩), cv z, .bool b] w fun e w' => e = .returned (.tuple #[.complex .f32 0 0, .complex .f32 0 0, .complex .f32 0 0, .bool true]) ∧ Below w.heap.size w w' := by
  obtain ⟨k1, k2, k3, k4⟩ := hm
  have K2 := Lib.hid k2
  clear k2
  go_enter Tryz.func107, Tryz.ntmps107
  go_wp2_with (go_at_call 20; refine (spec_PolyAt g cap xs z v w hr hv k1 K2.out k3).mono ?_; rintro e w3 ⟨rfl, hb3⟩)
  refine bodyPost_ret (v := .tuple #[.complex .f32 0 0, .complex .f32 0 0, .complex .f32 0 0, .bool true]) (by simp [results, Tryz.results107, go_sem]) rfl ⟨rfl, hb3⟩

/-- The values of a polynomial, of its slope ys, and of the slope zs of this, where none is 0 that must not. -/
structure Vals (xs ys zs : List C) (z v s t : C) : Prop where
  finz : FinC z
  horner : hornerO xs z = some v
  finv : FinC v
  nz : isZ v = false
  slope : slopeO xs = some ys
  valid : VP ys
  horners : hornerO ys z = some s
  fins : FinC s
  slope2 : slopeO ys = some zs
  valid2 : VP zs
  hornert : hornerO zs z = some t
  fint : FinC t

set_option maxRecDepth 100000 in
set_option maxHeartbeats 2000000 in
theorem spec_l05Values (bp g cap : Nat) (xs ys zs : List C) (z v s t : C) (w : World) (hp : w.cell? ⟨bp, 0, none⟩ = some (.slice (some ⟨g, 0, none⟩) xs.length cap)) (hr : Rd w g xs) (hv : VP xs) (hm : Vals xs ys zs z v s t) :
    Calls Tryz.prog 107 #[.pointer (some ⟨bp, 0, none⟩), cv z, .bool true] w fun e w' => e = .returned (.tuple #[cv v, cv s, cv t, .bool true]) ∧ Below w.heap.size w w' := by
  obtain ⟨k1, k2, k3, k4, k5, k6, k7, k8, k9, k10, k11, k12⟩ := hm
  have K2 := Lib.hid k2
  have K5 := Lib.hid k5
  have K7 := Lib.hid k7
  have K9 := Lib.hid k9
  have K11 := Lib.hid k11
  clear k2 k5 k7 k9 k11
  go_enter Tryz.func107, Tryz.ntmps107
  go_wp2_with (first
    | (go_at_call 20; (with_reducible refine (spec_PolyAt g cap xs z v w hr hv k1 K2.out k3).mono ?_); rintro e w3 ⟨rfl, hb3⟩; have hc3 := kc hb3 hp; have hr3 := hr.below hb3)
    | (go_at_call 142; (with_reducible refine (spec_SlopePoly g cap xs ys w3 hr3 hv K5.out k6).mono ?_); rintro e w4 ⟨g4, cap4, rfl, hg4, hr4, hb4, hcap4⟩; have hbw4 := below_trans hb3 hb4; have hc5 := new_cell w4 (.slice (some ⟨g4, 0, none⟩) ys.length cap4) 28)
    | (go_at_call 20; (with_reducible refine (spec_PolyAt g4 cap4 ys z s _ (hr4.alloc _) k6 k1 K7.out k8).mono ?_); rintro e w5 ⟨rfl, hb5⟩; have hbw5 := below_trans hbw4 (below_alloc hb5); have hc6 := kc hb5 hc5; have hr5 := (hr4.alloc _).below hb5)
    | (go_at_call 142; (with_reducible refine (spec_SlopePoly g4 cap4 ys zs w5 hr5 k6 K9.out k10).mono ?_); rintro e w6 ⟨g6, cap6, rfl, hg6, hr6, hb6, hcap6⟩; have hbw6 := below_trans hbw5 hb6; have hc7 := new_cell w6 (.slice (some ⟨g6, 0, none⟩) zs.length cap6) 28)
    | (go_at_call 20; (with_reducible refine (spec_PolyAt g6 cap6 zs z t _ (hr6.alloc _) k10 k1 K11.out k12).mono ?_); rintro e w7 ⟨rfl, hb7⟩; have hbw7 := below_trans hbw6 (below_alloc hb7)))
  refine bodyPost_ret (v := .tuple #[cv v, cv s, cv t, .bool true]) (by simp [results, Tryz.results107, go_sem]) rfl ⟨rfl, hbw7⟩

set_option maxRecDepth 100000 in
set_option maxHeartbeats 1000000 in
theorem spec_l05Slope_root (bp g cap : Nat) (xs : List C) (z v : C) (w : World) (hp : w.cell? ⟨bp, 0, none⟩ = some (.slice (some ⟨g, 0, none⟩) xs.length cap)) (hr : Rd w g xs) (hv : VP xs) (hm : AtRoot xs z v) :
    Calls Tryz.prog 98 #[.pointer (some ⟨bp, 0, none⟩), cv z] w fun e w' => e = .returned (.tuple #[cv z, .bool true]) ∧ Below w.heap.size w w' := by
  have h0 : (FloatKind.f32.format.order 0 0 == some Ordering.eq) = true := by kernel_rfl
  go_enter Tryz.func98, Tryz.ntmps98
  go_wp2_with (go_at_call 107; refine (spec_l05Values_root bp g cap xs z v false w hp hr hv hm).mono ?_; rintro e w3 ⟨rfl, hb3⟩)
  all_goals (go_ret2; exact ⟨rfl, hb3⟩)

set_option maxHeartbeats 1000000 in
theorem spec_l05Polish_root (bp g cap : Nat) (xs : List C) (z v : C) (w : World) (hp : w.cell? ⟨bp, 0, none⟩ = some (.slice (some ⟨g, 0, none⟩) xs.length cap)) (hr : Rd w g xs) (hv : VP xs) (hm : AtRoot xs z v) :
    Calls Tryz.prog 46 #[.pointer (some ⟨bp, 0, none⟩), cv z, .int .i64 1] w fun e w' => e = .returned (.tuple #[cv z, .bool true]) ∧ Below w.heap.size w w' := by
  go_enter Tryz.func46, Tryz.ntmps46
  go_wp2
  refine wp_loop_rounds 2 ?_
  rw [rounds_succ]
  go_wp2_with (go_at_call 98; refine (spec_l05Slope_root bp g cap xs z v w hp hr hv hm).mono ?_; rintro e w3 ⟨rfl, hb3⟩)
  rw [rounds_succ]
  go_wp2
  go_ret2
  exact ⟨rfl, hb3⟩

set_option maxHeartbeats 1000000 in
theorem spec_PolishRoot_root (g cap : Nat) (xs : List C) (z v : C) (w : World) (hr : Rd w g xs) (hv : VP xs) (h2 : 2 ≤ xs.length) (hm : AtRoot xs z v) :
    Calls Tryz.prog 13 #[.agg #[.slice (some ⟨g, 0, none⟩) xs.length cap], cv z, .int .i64 1] w fun e w' => e = .returned (.tuple #[cv z, .bool true]) ∧ Below w.heap.size w w' := by
  have hp := new_cell w (.slice (some ⟨g, 0, none⟩) xs.length cap) 28
  have hr0 := hr.alloc (.cells #[.slice (some ⟨g, 0, none⟩) xs.length cap] 28)
  have k1 := hm.finz
  go_enter Tryz.func13, Tryz.ntmps13
  go_wp2_with (first
    | (go_at_call 44; refine (spec_l05Can _ g cap xs z _ hp hr0 hv h2 k1).mono ?_; rintro e w' ⟨rfl, rfl⟩)
    | (go_at_call 45; refine (spec_l05Times 1 0 _ (by omega) (by omega)).mono ?_; rintro e w' ⟨rfl, rfl⟩)
    | (go_at_call 46; refine (spec_l05Polish_root _ g cap xs z v _ hp hr0 hv hm).mono ?_; rintro e w1 ⟨rfl, hb1⟩))
  go_ret2
  exact ⟨rfl, below_alloc hb1⟩

set_option maxHeartbeats 1000000 in
theorem impl_isRootAt (g cap : Nat) (xs : List C) (z v : C) (b : Bool) (w : World) (hr : Rd w g xs) (hv : VP xs) (k1 : FinC z) (k2 : hornerO xs z = some v) (k3 : FinC v) (hb : isZ v = b) :
    Calls Tryz.prog 51 #[.agg #[.slice (some ⟨g, 0, none⟩) xs.length cap], cv z] w fun e w' => e = .returned (.bool b) ∧ Below w.heap.size w w' := by
  have K2 := Lib.hid k2
  clear k2
  go_enter Tryz.func51, Tryz.ntmps51
  go_wp2_with (go_at_call 25; refine (impl_PolyAt g cap xs z v _ (hr.alloc _) hv k1 K2.out k3).mono ?_; rintro e w3 ⟨rfl, hb3⟩)
  all_goals (go_ret; exact ⟨rfl, below_alloc hb3⟩)

set_option maxRecDepth 100000 in
set_option maxHeartbeats 2000000 in
theorem impl_valuesAt (g cap : Nat) (xs ys zs : List C) (z v s t : C) (w : World) (hr : Rd w g xs) (hv : VP xs) (h2 : 2 ≤ xs.length) (hm : Vals xs ys zs z v s t) :
    Calls Tryz.prog 52 #[.agg #[.slice (some ⟨g, 0, none⟩) xs.length cap], cv z] w fun e w' => e = .returned (.tuple #[cv v, cv s, cv t, .bool true]) ∧ Below w.heap.size w w' := by
  obtain ⟨k1, k2, k3, k4, k5, k6, k7, k8, k9, k10, k11, k12⟩ := hm
  have K2 := Lib.hid k2
  have K5 := Lib.hid k5
  have K7 := Lib.hid k7
  have K9 := Lib.hid k9
  have K11 := Lib.hid k11
  clear k2 k5 k7 k9 k11
  go_enter Tryz.func52, Tryz.ntmps52
  go_wp2_with (first
    | (go_at_call 38; refine (impl_isRooted g cap xs _ (hr.alloc _) hv h2).mono ?_; rintro e w1 ⟨rfl, hb1⟩; have hc1 := box_cell hb1; have hr1 := (hr.alloc _).below hb1)
    | (go_at_call 42; refine (impl_allFinite w1.heap.size 1 [z] _ (by simp) (one_rd w1 z _) (one_fin k1)).mono ?_; rintro e w2 ⟨rfl, hb2⟩; have hc2 := (keep1 hb1 hb2).trans hc1; have hr2 := (hr1.alloc _).below hb2; have hbw2 := below_trans (below_alloc hb1) (below_alloc hb2))
    | (go_at_call 47; (with_reducible refine (impl_SlopePoly g cap xs ys w2 hr2 hv K5.out k6).mono ?_); rintro e w4 ⟨g4, cap4, rfl, hg4, hr4, hb4, hcap4⟩; have hbw4 := below_trans hbw2 hb4; have hc4 := kca (kc hb4 hc2) (.cells #[.slice (some ⟨g4, 0, none⟩) ys.length cap4] 28); have hr4' := (hr2.below hb4).alloc (.cells #[.slice (some ⟨g4, 0, none⟩) ys.length cap4] 28); have hr5 := hr4.alloc (.cells #[.slice (some ⟨g4, 0, none⟩) ys.length cap4] 28); have hc5 := new_cell w4 (.slice (some ⟨g4, 0, none⟩) ys.length cap4) 28)
    | (go_at_call 47; (with_reducible refine (impl_SlopePoly g4 cap4 ys zs _ hr5 k6 K9.out k10).mono ?_); rintro e w6 ⟨g6, cap6, rfl, hg6, hr6, hb6, hcap6⟩; have hbw6 := below_trans hbw4 (below_alloc hb6); have hc6 := kca (kc hb6 hc4) (.cells #[.slice (some ⟨g6, 0, none⟩) zs.length cap6] 28); have hr6' := (hr4'.below hb6).alloc (.cells #[.slice (some ⟨g6, 0, none⟩) zs.length cap6] 28); have hd6 := kca (kc hb6 hc5) (.cells #[.slice (some ⟨g6, 0, none⟩) zs.length cap6] 28); have hs6 := (hr5.below hb6).alloc (.cells #[.slice (some ⟨g6, 0, none⟩) zs.length cap6] 28); have ht6 := hr6.alloc (.cells #[.slice (some ⟨g6, 0, none⟩) zs.length cap6] 28); have he6 := new_cell w6 (.slice (some ⟨g6, 0, none⟩) zs.length cap6) 28)
    | (go_at_call 25; (with_reducible refine (impl_PolyAt g cap xs z v _ hr6' hv k1 K2.out k3).mono ?_); rintro e w7 ⟨rfl, hb7⟩; have hbw7 := below_trans hbw6 (below_alloc hb7); have hd7 := kc hb7 hd6; have he7 := kc hb7 he6; have hs7 := hs6.below hb7; have ht7 := ht6.below hb7)
    | (go_at_call 25; (with_reducible refine (impl_PolyAt g4 cap4 ys z s w7 hs7 k6 k1 K7.out k8).mono ?_); rintro e w8 ⟨rfl, hb8⟩; have hbw8 := below_trans hbw7 hb8; have he8 := kc hb8 he7; have ht8 := ht7.below hb8)
    | (go_at_call 25; (with_reducible refine (impl_PolyAt g6 cap6 zs z t w8 ht8 k10 k1 K11.out k12).mono ?_); rintro e w9 ⟨rfl, hb9⟩; have hbw9 := below_trans hbw8 hb9))
  refine bodyPost_ret (v := .tuple #[cv v, cv s, cv t, .bool true]) (by simp [results, Tryz.results52, go_sem]) rfl ⟨rfl, hbw9⟩

/-- What is asked of a step by two slopes. -/
structure Hal (z v s t vs a ss b vt d q r : C) : Prop where
  h1 : mulO v s = some vs
  h2 : scaleO vs 1073741824 = some a
  h3 : mulO s s = some ss
  h4 : scaleO ss 1073741824 = some b
  h5 : mulO v t = some vt
  h6 : minusO b vt = some d
  h7 : quotO a d = some q
  h8 : FinC q
  h9 : minusO z q = some r
  h10 : FinC r

set_option maxRecDepth 100000 in
set_option maxHeartbeats 2000000 in
theorem impl_HalleyOnce (g cap : Nat) (xs ys zs : List C) (z v s t vs a ss b vt d q r : C) (w : World) (hr : Rd w g xs) (hv : VP xs) (h2 : 2 ≤ xs.length) (hm : Vals xs ys zs z v s t) (hh : Hal z v s t vs a ss b vt d q r) :
    Calls Tryz.prog 15 #[.agg #[.slice (some ⟨g, 0, none⟩) xs.length cap], cv z] w fun e w' => e = .returned (.tuple #[cv r, .bool true]) ∧ Below w.heap.size w w' := by
  obtain ⟨h1, h2', h3, h4, h5, h6, h7, h8, h9, h10⟩ := hh
  have H1 := Lib.hid h1
  have H2 := Lib.hid h2'
  have H3 := Lib.hid h3
  have H4 := Lib.hid h4
  have H5 := Lib.hid h5
  have H6 := Lib.hid h6
  have H7 := Lib.hid h7
  have H9 := Lib.hid h9
  clear h1 h2' h3 h4 h5 h6 h7 h9
  go_enter Tryz.func15, Tryz.ntmps15
  go_wp2_with (first
    | (go_at_call 38; refine (impl_isRooted g cap xs _ (hr.alloc _) hv h2).mono ?_; rintro e w1 ⟨rfl, hb1⟩; have hc1 := box_cell hb1; have hr1 := (hr.alloc _).below hb1; have hbw1 := below_alloc hb1)
    | (go_at_call 51; refine (impl_isRootAt g cap xs z v false w1 hr1 hv hm.finz hm.horner hm.finv hm.nz).mono ?_; rintro e w2 ⟨rfl, hb2⟩; have hc2 := kc hb2 hc1; have hr2 := hr1.below hb2; have hbw2 := below_trans hbw1 hb2)
    | (go_at_call 52; refine (impl_valuesAt g cap xs ys zs z v s t w2 hr2 hv h2 hm).mono ?_; rintro e w3 ⟨rfl, hb3⟩; have hbw3 := below_trans hbw2 hb3)
    | (go_at_call 54; (with_reducible refine (impl_MulComplex v s vs H1.out _).mono ?_); rintro e w' ⟨rfl, rfl⟩)
    | (go_at_call 53; (with_reducible refine (impl_ScaleComplex vs a _ H2.out _).mono ?_); rintro e w' ⟨rfl, rfl⟩)
    | (go_at_call 54; (with_reducible refine (impl_MulComplex s s ss H3.out _).mono ?_); rintro e w' ⟨rfl, rfl⟩)
    | (go_at_call 53; (with_reducible refine (impl_ScaleComplex ss b _ H4.out _).mono ?_); rintro e w' ⟨rfl, rfl⟩)
    | (go_at_call 54; (with_reducible refine (impl_MulComplex v t vt H5.out _).mono ?_); rintro e w' ⟨rfl, rfl⟩)
    | (go_at_call 50; (with_reducible refine (impl_minus b vt d H6.out _).mono ?_); rintro e w' ⟨rfl, rfl⟩)
    | (go_at_call 48; (with_reducible refine (impl_QuotientOf a d q H7.out _).mono ?_); rintro e w' ⟨rfl, rfl⟩)
    | (go_at_call 42; refine (impl_allFinite w3.heap.size 1 [q] _ (by simp) (one_rd w3 q _) (one_fin h8)).mono ?_; rintro e w4 ⟨rfl, hb4⟩; have hbw4 := below_trans hbw3 (below_alloc hb4))
    | (go_at_call 50; (with_reducible refine (impl_minus z q r H9.out _).mono ?_); rintro e w' ⟨rfl, rfl⟩)
    | (go_at_call 49; refine (impl_finite r h10 _).mono ?_; rintro e w5 ⟨rfl, hb5⟩))
  go_ret2
  exact ⟨rfl, below_trans hbw4 hb5⟩
end Go.Proofs.YtlhdgbiaiacpfaaGreat
