/- Contracts of the division by the variable less a number. No condition but that the operations are valid and finite. -/
import Derived.Test.YtlhdgbiaiacpfaaGreatW19
namespace Go.Proofs.YtlhdgbiaiacpfaaGreat
open Go.RowKit

theorem eqlNil (w : World) (a : Addr) (n c : Nat) : (binOp .eql 25 (.slice (some a) n c) (.slice none 0 0)).run Tryz.prog w = .ok (.bool false) w :=
  Lib.run_eql_slice_nil w 25 36 (some a) n c 0 0 Tryz.underlying25
set_option maxHeartbeats 1000000 in
theorem slices_Clone (g cap : Nat) (xs : List C) (w : World) (hn : xs.length ≤ 900) (h1 : 1 ≤ xs.length) (hr : Rd w g xs) :
    Calls Tryz.prog 88 #[.slice (some ⟨g, 0, none⟩) xs.length cap] w fun e w' => ∃ v, e = .returned v ∧ OwnC w' w.heap.size v xs ∧ Below w.heap.size w w' := by
  have hm := OwnC.made w w.heap.size (Nat.le_refl _)
  have H1 := Lib.hid h1
  have HN := Lib.hid hn
  have HR := Lib.hid hr
  clear h1 hn hr
  go_enter Tryz.func88, Tryz.ntmps88
  have he := eqlNil
  go_wp2_with (at_builtin;  refine appendN rfl (.tmp 5) (.tmp 6) rfl w.heap.size _ [] rfl hm g cap xs rfl (HR.out.alloc _) H1.out (by have := HN.out; simp; omega) (by simp) ?_; intro v' w1 hown0 hb1; have hown1 : OwnC w1 w.heap.size v' xs := hown0; clear hown0; obtain ⟨g1, cap1, rfl, hbg1, hr1, hcp1⟩ := hown1.rd)
  all_goals (go_ret; exact ⟨_, rfl, hown1, ((Below.refl _ _).alloc (Nat.le_refl _) _).trans hb1⟩)

set_option maxHeartbeats 400000 in
theorem impl_isZero2 (g cap : Nat) (xs : List C) (w : World) (h2 : 2 ≤ xs.length) :
    Calls Tryz.prog 117 #[.agg #[.slice (some ⟨g, 0, none⟩) xs.length cap]] w fun e w' => e = .returned (.bool false) ∧ Below w.heap.size w w' := by
  have hd : decide ((xs.length : Int) = 1) = false := by simp; omega
  go_enter Tryz.func117, Tryz.ntmps117
  go_wp2
  all_goals (go_ret; exact ⟨rfl, (Below.refl _ _).alloc (Nat.le_refl _) _⟩)
end Go.Proofs.YtlhdgbiaiacpfaaGreat
