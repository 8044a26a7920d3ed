/- Contracts of the tests for finite parts. No condition but that the numbers are finite. -/
import Derived.Test.YtlhdgbiaiacpfaaGreatW2
namespace Go.Proofs.YtlhdgbiaiacpfaaGreat
open Go.RowKit

/-- A finite 32-bit number: taken from itself it is +0. -/
def Fin (x : Nat) : Prop := sub32 x x = some 0
def FinC (x : C) : Prop := Fin x.1 ∧ Fin x.2

theorem impl_IsFinite (x : Nat) (h : Fin x) (w : World) :
    Calls Tryz.prog 66 #[.float .f32 x] w fun e w' => e = .returned (.bool true) ∧ w = w' := by
  unfold Fin sub32 at h
  have h0 : (FloatKind.f32.format.order 0 0 == some Ordering.eq) = true := by kernel_rfl
  go_enter Tryz.func66, Tryz.ntmps66
  go_wp2
  go_ret
  exact ⟨rfl, rfl⟩

theorem impl_areFinite1 (x : Nat) (h : Fin x) (w : World) :
    Calls Tryz.prog 151 #[.float .f32 x] w fun e w' => e = .returned (.bool false) ∧ w = w' := by
  go_enter Tryz.func151, Tryz.ntmps151
  go_wp2_with (go_at_call 66; refine (impl_IsFinite x h _).mono ?_; rintro e w' ⟨rfl, rfl⟩)
  go_ret
  exact ⟨rfl, rfl⟩

set_option maxHeartbeats 400000 in
theorem indexFunc32 (g n cap : Nat) (w : World) (hn : n ≤ 1000) (hc : ∀ k, k < n → ∃ x, w.cell? ⟨g, k, none⟩ = some (.float .f32 x) ∧ Fin x) :
    Calls Tryz.prog 147 #[.slice (some ⟨g, 0, none⟩) n cap, .func (.func 151) #[] #[]] w fun e w' => e = .returned (.int .i64 (-1)) ∧ w = w' := by
  have HC := Lib.hid hc
  clear hc
  go_enter Tryz.func147, Tryz.ntmps147
  go_wp2
  go_loop [8] (fun i => ∃ k : Nat, k ≤ n ∧ i = .int .i64 k) (fun i => n - (intOf i).toNat)
  case atStart => exact ⟨0, Nat.zero_le _, rfl⟩
  case round =>
    obtain ⟨k, hk, rfl⟩ := hrel
    by_cases hlt : k < n
    · obtain ⟨x, hx, hf⟩ := HC.out k hlt
      go_wp2_with (go_at_call 151; refine (impl_areFinite1 x hf _).mono ?_; rintro e w' ⟨rfl, rfl⟩)
      go_round
      case rel => exact ⟨k + 1, by omega, by go_num⟩
      case measure => simp [intOf]; omega
    · go_wp2
      go_ret
      exact ⟨rfl, rfl⟩

theorem containsFunc32 (g n cap : Nat) (w : World) (hn : n ≤ 1000) (hc : ∀ k, k < n → ∃ x, w.cell? ⟨g, k, none⟩ = some (.float .f32 x) ∧ Fin x) :
    Calls Tryz.prog 125 #[.slice (some ⟨g, 0, none⟩) n cap, .func (.func 151) #[] #[]] w fun e w' => e = .returned (.bool false) ∧ w = w' := by
  have HC := Lib.hid hc
  clear hc
  go_enter Tryz.func125, Tryz.ntmps125
  go_wp2_with (go_at_call 147; refine (indexFunc32 g n cap _ hn HC.out).mono ?_; rintro e w' ⟨rfl, rfl⟩)
  go_ret
  exact ⟨rfl, rfl⟩

theorem impl_areFinite (g n cap : Nat) (w : World) (hn : n ≤ 1000) (hc : ∀ k, k < n → ∃ x, w.cell? ⟨g, k, none⟩ = some (.float .f32 x) ∧ Fin x) :
    Calls Tryz.prog 136 #[.slice (some ⟨g, 0, none⟩) n cap] w fun e w' => e = .returned (.bool true) ∧ w = w' := by
  have HC := Lib.hid hc
  clear hc
  go_enter Tryz.func136, Tryz.ntmps136
  go_wp2_with (go_at_call 125; refine (containsFunc32 g n cap _ hn HC.out).mono ?_; rintro e w' ⟨rfl, rfl⟩)
  go_ret
  exact ⟨rfl, rfl⟩

theorem impl_IsFiniteComplex (x : C) (h : FinC x) (w : World) :
    Calls Tryz.prog 97 #[cv x] w fun e w' => e = .returned (.bool true) ∧ Below w.heap.size w w' := by
  obtain ⟨h1, h2⟩ := h
  go_enter Tryz.func97, Tryz.ntmps97
  go_wp2_with (go_at_call 136; refine (impl_areFinite w.heap.size 2 2 _ (by omega) (fun k hk => ?_)).mono ?_; (obtain rfl | rfl : k = 0 ∨ k = 1 := by omega); exact ⟨x.1, by simp [cell_of_row _ _ _ _ _ _ (heap_alloc_new w _)], h1⟩; exact ⟨x.2, by simp [cell_of_row _ _ _ _ _ _ (heap_alloc_new w _)], h2⟩; rintro e w' ⟨rfl, rfl⟩)
  go_ret
  exact ⟨rfl, (Below.refl _ _).alloc (Nat.le_refl _) _⟩

theorem impl_allFinite1 (x : C) (h : FinC x) (w : World) :
    Calls Tryz.prog 96 #[cv x] w fun e w' => e = .returned (.bool false) ∧ Below w.heap.size w w' := by
  go_enter Tryz.func96, Tryz.ntmps96
  go_wp2_with (go_at_call 97; refine (impl_IsFiniteComplex x h _).mono ?_; rintro e w' ⟨rfl, hb⟩)
  go_ret
  exact ⟨rfl, hb⟩
end Go.Proofs.YtlhdgbiaiacpfaaGreat
