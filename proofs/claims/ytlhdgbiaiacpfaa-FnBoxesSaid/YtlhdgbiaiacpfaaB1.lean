/- Boxes: what their contracts ask, and the tests of a box. No condition but that the operations are valid and finite. -/
import Derived.Test.YtlhdgbiaiacpfaaW19
import Derived.Deep.LoopGhost
import Derived.Deep.DeepCutAuto
namespace Go.Proofs.Ytlhdgbiaiacpfaa
open Go.RowKit

/-- The corners of a box, from low on, and low again. -/
def cor (low high : C) : Nat → C
  | 0 => low
  | 1 => (high.1, low.2)
  | 2 => high
  | 3 => (low.1, high.2)
  | _ => low
/-- What is asked of a box. -/
structure IsBox (low high d : C) : Prop where
  fl : FinC low
  fh : FinC high
  sub : minusO high low = some d
  fd : FinC d
  dx : FloatKind.f32.format.order d.1 0 = some .gt
  dy : FloatKind.f32.format.order d.2 0 = some .gt
/-- The points of a box, m on a side. -/
structure Pts (low high : C) (m : Nat) (d z : Nat → C) : Prop where
  size : ∀ s, s < 4 → minusO (cor low high (s + 1)) (cor low high s) = some (d s)
  pt : ∀ s k : Nat, s < 4 → k < m → ∃ f e, div32 (floatOfInt .f32 (k : Int)) (floatOfInt .f32 (m : Int)) = some f ∧ scaleO (d s) f = some e ∧ plusO (cor low high s) e = some (z (s * m + k))
  first : z 0 = low
/-- The values at the points. -/
def Vls (ys : List C) (n : Nat) (z v : Nat → C) : Prop := ∀ i, i < n → FinC (z i) ∧ hornerO ys (z i) = some (v i) ∧ FinC (v i) ∧ isZ (v i) = false
def nx (n i : Nat) : Nat := if i + 1 = n then 0 else i + 1
/-- The angles of the quotients of values, one behind the other, summed up. -/
structure Trn (n : Nat) (v : Nat → C) (s : Nat → Nat) : Prop where
  zero : s 0 = 0
  step : ∀ i, i < n → ∃ q a, quotO (v (nx n i)) (v i) = some q ∧ FinC q ∧ AngleIs q a ∧ SAngleIs q a ∧ add32 (s i) a = some (s (i + 1))
  fin : Fin (s n)
/-- All that is asked of a box: s is what the turns come to. -/
def BoxOk (ys : List C) (low high : C) (m s : Nat) : Prop :=
  ∃ d0 d z v t, IsBox low high d0 ∧ Pts low high m d z ∧ Vls ys (4 * m) z v ∧ Trn (4 * m) v t ∧ t (4 * m) = s
/-- The first n of a sequence. -/
def upto (f : Nat → C) (n : Nat) : List C := (List.range n).map f
theorem upto_length (f : Nat → C) (n : Nat) : (upto f n).length = n := by simp [upto]
theorem upto_succ (f : Nat → C) (n : Nat) : upto f (n + 1) = upto f n ++ [f n] := by simp [upto, List.range_succ]
theorem upto_at {f : Nat → C} {n k : Nat} (h : k < n) : at_ (upto f n) k = f k := by simp [upto, at_, List.getD, h]

theorem impl_isBox (low high d : C) (w : World) (h : IsBox low high d) :
    Calls Try.prog 25 #[cv low, cv high] w fun e w' => e = .returned (.bool true) ∧ Below w.heap.size w w' := by
  obtain ⟨h1, h2, h3, h4, h5, h6⟩ := h
  have H3 := Lib.hid h3
  have H5 := Lib.hid h5
  have H6 := Lib.hid h6
  have rd : ∀ W : World, Rd (W.alloc (.cells #[cv low, cv high, cv d] 31)) W.heap.size [low, high, d] := by
    intro W
    refine ⟨by simp, fun k hk => ?_⟩
    rw [cell_of_row _ _ _ _ _ _ (heap_alloc_new W _)]
    obtain rfl | rfl | rfl : k = 0 ∨ k = 1 ∨ k = 2 := by simp at hk; omega
    all_goals rfl
  have fin : AllFin [low, high, d] := by
    intro k hk
    obtain rfl | rfl | rfl : k = 0 ∨ k = 1 ∨ k = 2 := by simp at hk; omega
    · exact h1
    · exact h2
    · exact h4
  clear h3
  go_enter Try.func25, Try.ntmps25
  go_wp2_with (first
    | (go_at_call 27; (with_reducible refine (impl_minus high low d H3.out _).mono ?_); rintro e w' ⟨rfl, rfl⟩)
    | (go_at_call 51; refine (impl_allFinite w.heap.size 3 [low, high, d] _ (by simp) (rd w) fin).mono ?_; rintro e w1 ⟨rfl, hb1⟩))
  go_ret
  exact ⟨rfl, below_alloc hb1⟩

theorem spec_l05Box (low high d : C) (w : World) (h : IsBox low high d) :
    Calls Try.prog 60 #[cv low, cv high] w fun e w' => e = .returned (.bool true) ∧ w = w' := by
  obtain ⟨h1, h2, h3, h4, h5, h6⟩ := h
  have hz : FloatKind.f32.format.order 0 0 = some .eq := by kernel_rfl
  go_enter Try.func60, Try.ntmps60
  go_wp2_with (first
    | (go_at_call 43; (with_reducible refine (spec_l01CFinite low h1 _).mono ?_); rintro e w' ⟨rfl, rfl⟩)
    | (go_at_call 43; (with_reducible refine (spec_l01CFinite high h2 _).mono ?_); rintro e w' ⟨rfl, rfl⟩)
    | (go_at_call 43; (with_reducible refine (spec_l01CFinite d h4 _).mono ?_); rintro e w' ⟨rfl, rfl⟩))
  go_ret
  exact ⟨rfl, rfl⟩

theorem spec_l05Boxed (bp g cap : Nat) (ys : List C) (low high d : C) (m : Nat) (w : World) (hp : w.cell? ⟨bp, 0, none⟩ = some (.slice (some ⟨g, 0, none⟩) ys.length cap)) (hr : Rd w g ys) (hv : VP ys) (h2 : 2 ≤ ys.length) (h : IsBox low high d) (hm : 4 ≤ m) (hm2 : m ≤ 64) :
    Calls Try.prog 34 #[.pointer (some ⟨bp, 0, none⟩), cv low, cv high, .int .i64 m] w fun e w' => e = .returned (.bool true) ∧ w = w' := by
  go_enter Try.func34, Try.ntmps34
  go_wp2_with (first
    | (go_at_call 59; refine (spec_l05Is bp g cap ys _ hp hr hv h2).mono ?_; rintro e w' ⟨rfl, rfl⟩)
    | (go_at_call 60; (with_reducible refine (spec_l05Box low high d _ h).mono ?_); rintro e w' ⟨rfl, rfl⟩)
    | (go_at_call 37; refine (spec_l00In m 4 64 _ (by omega) (by omega)).mono ?_; rintro e w' ⟨rfl, rfl⟩))
  go_ret
  exact ⟨rfl, rfl⟩
end Go.Proofs.Ytlhdgbiaiacpfaa
