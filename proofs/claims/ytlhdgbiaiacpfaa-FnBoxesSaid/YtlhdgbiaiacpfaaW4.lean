/- Lists of complex numbers in memory; the tests over them. No condition but that the numbers are finite. -/
import Derived.Test.YtlhdgbiaiacpfaaW3
namespace Go.Proofs.Ytlhdgbiaiacpfaa
open Go.RowKit

/-- The number with the index k. -/
def at_ (xs : List C) (k : Nat) : C := xs.getD k (0, 0)
/-- Block g holds the complex numbers xs from its head on. -/
def Rd (w : World) (g : Nat) (xs : List C) : Prop := g < w.heap.size ∧ ∀ k, k < xs.length → w.cell? ⟨g, k, none⟩ = some (cv (at_ xs k))
theorem Rd.below {w w' : World} {g : Nat} {xs : List C} (h : Rd w g xs) (hb : Below w.heap.size w w') : Rd w' g xs :=
  ⟨Nat.lt_of_lt_of_le h.1 hb.size, fun k hk => (hb.cell (p := ⟨g, k, none⟩) h.1).trans (h.2 k hk)⟩
theorem Rd.below' {w w' : World} {g B : Nat} {xs : List C} (h : Rd w g xs) (hb : Below B w w') (hg : g < B) : Rd w' g xs :=
  ⟨Nat.lt_of_lt_of_le h.1 hb.size, fun k hk => (hb.cell (p := ⟨g, k, none⟩) hg).trans (h.2 k hk)⟩
theorem Rd.drew {w : World} {g : Nat} {xs : List C} (h : Rd w g xs) : Rd w.drew g xs := h
theorem Rd.drewN {w : World} {g n : Nat} {xs : List C} (h : Rd w g xs) : Rd (w.drewN n) g xs := h
theorem Rd.alloc {w : World} {g : Nat} {xs : List C} (h : Rd w g xs) (o : Obj) : Rd (w.alloc o) g xs := h.below ((Below.refl _ _).alloc (Nat.le_refl _) _)
theorem Rd.setCell {w : World} {g : Nat} {xs : List C} (h : Rd w g xs) {p : Addr} (hp : g ≠ p.block) (u : Value) : Rd (w.setCell p u) g xs :=
  ⟨by simpa [World.setCell] using h.1, fun k hk => (World.cell?_setCell_other w p ⟨g, k, none⟩ u (fun e => hp (by rw [e]))).trans (h.2 k hk)⟩
def AllFin (xs : List C) : Prop := ∀ k, k < xs.length → FinC (at_ xs k)

theorem below_trans {w w' w'' : World} (h : Below w.heap.size w w') (k : Below w'.heap.size w' w'') : Below w.heap.size w w'' := h.trans (k.mono h.size)

set_option maxHeartbeats 400000 in
theorem indexFuncC (g cap : Nat) (xs : List C) (w : World) (hn : xs.length ≤ 1000) (hr : Rd w g xs) (hf : AllFin xs) :
    Calls Try.prog 84 #[.slice (some ⟨g, 0, none⟩) xs.length cap, .func (.func 72) #[] #[]] w fun e w' => e = .returned (.int .i64 (-1)) ∧ Below w.heap.size w w' := by
  have HR := Lib.hid hr
  have HF := Lib.hid hf
  clear hr hf
  go_enter Try.func84, Try.ntmps84
  go_wp2
  go_loopw [8] (fun i wr => ∃ k : Nat, k ≤ xs.length ∧ i = .int .i64 k ∧ Below w.heap.size w wr) (fun i _ => xs.length - (intOf i).toNat)
  case atStart => exact ⟨0, Nat.zero_le _, rfl, Below.refl _ _⟩
  case round =>
    obtain ⟨k, hk, rfl, hb⟩ := hrel
    by_cases hlt : k < xs.length
    · have hx := (HR.out.below hb).2 k hlt
      have hfk := HF.out k hlt
      go_wp2_with (go_at_call 72; refine (impl_allFinite1 (at_ xs k) hfk _).mono ?_; rintro e w' ⟨rfl, hb1⟩)
      go_roundw
      case rel => exact ⟨k + 1, by omega, by go_num, below_trans hb hb1⟩
      case measure => simp [intOf]; omega
    · go_wp2
      go_ret
      exact ⟨rfl, hb⟩

theorem containsFuncC (g cap : Nat) (xs : List C) (w : World) (hn : xs.length ≤ 1000) (hr : Rd w g xs) (hf : AllFin xs) :
    Calls Try.prog 71 #[.slice (some ⟨g, 0, none⟩) xs.length cap, .func (.func 72) #[] #[]] w fun e w' => e = .returned (.bool false) ∧ Below w.heap.size w w' := by
  go_enter Try.func71, Try.ntmps71
  go_wp2_with (go_at_call 84; refine (indexFuncC g cap xs _ hn hr hf).mono ?_; rintro e w' ⟨rfl, hb⟩)
  go_ret
  exact ⟨rfl, hb⟩

theorem impl_allFinite (g cap : Nat) (xs : List C) (w : World) (hn : xs.length ≤ 1000) (hr : Rd w g xs) (hf : AllFin xs) :
    Calls Try.prog 51 #[.slice (some ⟨g, 0, none⟩) xs.length cap] w fun e w' => e = .returned (.bool true) ∧ Below w.heap.size w w' := by
  go_enter Try.func51, Try.ntmps51
  go_wp2_with (go_at_call 71; refine (containsFuncC g cap xs _ hn hr hf).mono ?_; rintro e w' ⟨rfl, hb⟩)
  go_ret
  exact ⟨rfl, hb⟩

/-- A valid polynomial's terms. -/
structure VP (xs : List C) : Prop where
  pos : 1 ≤ xs.length
  most : xs.length ≤ 17
  fin : AllFin xs
  last : xs.length = 1 ∨ isZ (at_ xs (xs.length - 1)) = false

/-- The box of a struct of one field, behind a call. -/
theorem box_cell {w w' : World} {v : Value} {T : TypeId} (hb : Below (w.alloc (.cells #[v] T)).heap.size (w.alloc (.cells #[v] T)) w') : w'.cell? ⟨w.heap.size, 0, none⟩ = some v := by
  rw [hb.cell (by simp), cell_of_row _ _ _ _ _ _ (heap_alloc_new w _)]; rfl

theorem impl_ValidPoly (g cap : Nat) (xs : List C) (w : World) (hr : Rd w g xs) (hv : VP xs) :
    Calls Try.prog 50 #[.agg #[.slice (some ⟨g, 0, none⟩) xs.length cap]] w fun e w' => e = .returned (.bool true) ∧ Below w.heap.size w w' := by
  obtain ⟨h1, h2, h3, h4⟩ := hv
  by_cases h5 : xs.length = 1
  · have hd : ((xs.length : Int) == 1) = true := by simp [h5]
    have H5 := Lib.hid h5
    clear h5 h4
    go_enter Try.func50, Try.ntmps50
    go_wp2_with (go_at_call 51; refine (impl_allFinite g cap xs _ (by omega) (hr.alloc _) h3).mono ?_; rintro e w' ⟨rfl, hb⟩; have hc1 := box_cell hb)
    all_goals (go_ret; exact ⟨rfl, (Below.refl _ _).alloc (Nat.le_refl _) _ |>.trans (hb.mono (by simp))⟩)
  · have h6 := h4.resolve_left h5
    have h1' : 2 ≤ xs.length := by omega
    have hd : ((xs.length : Int) == 1) = false := by simp; omega
    clear h4 h5 h1
    go_enter Try.func50, Try.ntmps50
    go_wp2_with (go_at_call 51; refine (impl_allFinite g cap xs _ (by omega) (hr.alloc _) h3).mono ?_; rintro e w' ⟨rfl, hb⟩; have hc1 := box_cell hb; have hc2 := ((hr.alloc _).below hb).2 (xs.length - 1) (by omega))
    all_goals (go_ret; exact ⟨rfl, (Below.refl _ _).alloc (Nat.le_refl _) _ |>.trans (hb.mono (by simp))⟩)
end Go.Proofs.Ytlhdgbiaiacpfaa
