/- Contracts of the tests for finite parts. No condition but that the numbers are finite. -/
import Derived.Test.YtlhdgbiaiacpfaaW2
namespace Go.Proofs.Ytlhdgbiaiacpfaa
open Go.RowKit

/-- A finite 32-bit number: taken from itself it is +0. -/
def Fin (x : Nat) : Prop := sub32 x x = some 0
def FinC (x : C) : Prop := Fin x.1 ∧ Fin x.2

theorem impl_IsFinite (x : Nat) (h : Fin x) (w : World) :
    Calls Try.prog 58 #[.float .f32 x] w fun e w' => e = .returned (.bool true) ∧ w = w' := by
  unfold Fin sub32 at h
  have h0 : (FloatKind.f32.format.order 0 0 == some Ordering.eq) = true := by kernel_rfl
  go_enter Try.func58, Try.ntmps58
  go_wp2
  go_ret
  exact ⟨rfl, rfl⟩

theorem impl_areFinite1 (x : Nat) (h : Fin x) (w : World) :
    Calls Try.prog 86 #[.float .f32 x] w fun e w' => e = .returned (.bool false) ∧ w = w' := by
  go_enter Try.func86, Try.ntmps86
  go_wp2_with (go_at_call 58; refine (impl_IsFinite x h _).mono ?_; rintro e w' ⟨rfl, rfl⟩)
  go_ret
  exact ⟨rfl, rfl⟩

set_option maxHeartbeats 400000 in
theorem indexFunc32 (g n cap : Nat) (w : World) (hn : n ≤ 1000) (hc : ∀ k, k < n → ∃ x, w.cell? ⟨g, k, none⟩ = some (.float .f32 x) ∧ Fin x) :
    Calls Try.prog 97 #[.slice (some ⟨g, 0, none⟩) n cap, .func (.func 86) #[] #[]] w fun e w' => e = .returned (.int .i64 (-1)) ∧ w = w' := by
  have HC := Lib.hid hc
  clear hc
  go_enter Try.func97, Try.ntmps97
  go_wp2
  go_loop [8] (fun i => ∃ k : Nat, k ≤ n ∧ i = .int .i64 k) (fun i => n - (intOf i).toNat)
  case atStart => exact ⟨0, Nat.zero_le _, rfl⟩
  case round =>
    obtain ⟨k, hk, rfl⟩ := hrel
    by_cases hlt : k < n
    · obtain ⟨x, hx, hf⟩ := HC.out k hlt
      go_wp2_with (go_at_call 86; refine (impl_areFinite1 x hf _).mono ?_; rintro e w' ⟨rfl, rfl⟩)
      go_round
      case rel => exact ⟨k + 1, by omega, by go_num⟩
      case measure => simp [intOf]; omega
    · go_wp2
      go_ret
      exact ⟨rfl, rfl⟩

theorem containsFunc32 (g n cap : Nat) (w : World) (hn : n ≤ 1000) (hc : ∀ k, k < n → ∃ x, w.cell? ⟨g, k, none⟩ = some (.float .f32 x) ∧ Fin x) :
    Calls Try.prog 85 #[.slice (some ⟨g, 0, none⟩) n cap, .func (.func 86) #[] #[]] w fun e w' => e = .returned (.bool false) ∧ w = w' := by
  have HC := Lib.hid hc
  clear hc
  go_enter Try.func85, Try.ntmps85
  go_wp2_with (go_at_call 97; refine (indexFunc32 g n cap _ hn HC.out).mono ?_; rintro e w' ⟨rfl, rfl⟩)
  go_ret
  exact ⟨rfl, rfl⟩

theorem impl_areFinite (g n cap : Nat) (w : World) (hn : n ≤ 1000) (hc : ∀ k, k < n → ∃ x, w.cell? ⟨g, k, none⟩ = some (.float .f32 x) ∧ Fin x) :
    Calls Try.prog 75 #[.slice (some ⟨g, 0, none⟩) n cap] w fun e w' => e = .returned (.bool true) ∧ w = w' := by
  have HC := Lib.hid hc
  clear hc
  go_enter Try.func75, Try.ntmps75
  go_wp2_with (go_at_call 85; refine (containsFunc32 g n cap _ hn HC.out).mono ?_; rintro e w' ⟨rfl, rfl⟩)
  go_ret
  exact ⟨rfl, rfl⟩

theorem impl_IsFiniteComplex (x : C) (h : FinC x) (w : World) :
    Calls Try.prog 73 #[cv x] w fun e w' => e = .returned (.bool true) ∧ Below w.heap.size w w' := by
  obtain ⟨h1, h2⟩ := h
  go_enter Try.func73, Try.ntmps73
  go_wp2_with (go_at_call 75; refine (impl_areFinite w.heap.size 2 2 _ (by omega) (fun k hk => ?_)).mono ?_; (obtain rfl | rfl : k = 0 ∨ k = 1 := by omega); exact ⟨x.1, by simp [cell_of_row _ _ _ _ _ _ (heap_alloc_new w _)], h1⟩; exact ⟨x.2, by simp [cell_of_row _ _ _ _ _ _ (heap_alloc_new w _)], h2⟩; rintro e w' ⟨rfl, rfl⟩)
  go_ret
  exact ⟨rfl, (Below.refl _ _).alloc (Nat.le_refl _) _⟩

theorem impl_allFinite1 (x : C) (h : FinC x) (w : World) :
    Calls Try.prog 72 #[cv x] w fun e w' => e = .returned (.bool false) ∧ Below w.heap.size w w' := by
  go_enter Try.func72, Try.ntmps72
  go_wp2_with (go_at_call 73; refine (impl_IsFiniteComplex x h _).mono ?_; rintro e w' ⟨rfl, hb⟩)
  go_ret
  exact ⟨rfl, hb⟩
end Go.Proofs.Ytlhdgbiaiacpfaa
