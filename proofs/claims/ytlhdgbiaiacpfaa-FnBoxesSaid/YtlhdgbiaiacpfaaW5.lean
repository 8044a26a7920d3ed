/- Contracts of a polynomial's value, the program's and the reference's. No condition but that the operations are valid and finite. -/
import Derived.Test.YtlhdgbiaiacpfaaW4
import Derived.Deep.QuietTactic
import Derived.BigQuiet
namespace Go.Proofs.Ytlhdgbiaiacpfaa
open Go.RowKit

theorem quietL {P : Program} {f : FuncId} {args : Array Value} {w : World} {a n : Nat} {v : Value}
    (h : Calls P f args (w.drewN (a + n)) fun e w' => e = .returned v ∧ w.drewN (a + n) = w') :
    Calls P f args (w.drewN (a + n)) fun e w'' => e = .returned v ∧ ∃ m, w'' = w.drewN (a + m) :=
  h.mono fun _ _ ⟨he, hm⟩ => ⟨he, n, hm.symm⟩
theorem quietL0 {P : Program} {f : FuncId} {args : Array Value} {w : World} {n : Nat} {v : Value}
    (h : Calls P f args (w.drewN n) fun e w' => e = .returned v ∧ w.drewN n = w') : Calls P f args (w.drewN n) fun e w'' => e = .returned v ∧ ∃ m, w'' = w.drewN m :=
  h.mono fun _ _ ⟨he, hm⟩ => ⟨he, n, hm.symm⟩

/-- The value of the terms at z, j steps from the last one on. -/
def hz (xs : List C) (z : C) : Nat → Option C
  | 0 => some (at_ xs (xs.length - 1))
  | j + 1 => (hz xs z j).bind fun v => (mulO v z).bind fun m => plusO m (at_ xs (xs.length - 2 - j))
def hornerO (xs : List C) (z : C) : Option C := hz xs z (xs.length - 1)
theorem hz_some {xs : List C} {z r : C} : ∀ {n j : Nat}, hz xs z n = some r → j ≤ n → ∃ v, hz xs z j = some v := by
  intro n j
  induction n generalizing r with
  | zero => intro h hj; obtain rfl : j = 0 := by omega
            exact ⟨r, h⟩
  | succ n ih =>
    intro h hj
    by_cases e : j = n + 1
    · subst e; exact ⟨r, h⟩
    · simp only [hz, Option.bind_eq_some_iff] at h
      obtain ⟨v, hv, _⟩ := h
      exact ih hv (by omega)
theorem hz_succ {xs : List C} {z r : C} {n j : Nat} (h : hz xs z n = some r) (hj : j < n) {v : C} (hv : hz xs z j = some v) :
    ∃ m u, mulO v z = some m ∧ plusO m (at_ xs (xs.length - 2 - j)) = some u ∧ hz xs z (j + 1) = some u := by
  obtain ⟨u, hu⟩ := hz_some h (j := j + 1) (by omega)
  have hu' := hu
  simp only [hz, hv, Option.bind_some, Option.bind_eq_some_iff] at hu'
  obtain ⟨m, hm, hp⟩ := hu'
  exact ⟨m, u, hm, hp, hu⟩

theorem below_drewN {B : Nat} {a w : World} (h : Below B a w) (n : Nat) : Below B a (w.drewN n) := ⟨h.os, h.tape, h.output, h.size, h.block⟩
theorem ret_cv {a b : C} (h : a = b) : Ending.returned (cv a) = .returned (cv b) := by rw [h]

set_option maxHeartbeats 400000 in
theorem impl_nested (g cap : Nat) (xs : List C) (z r : C) (w : World) (h1 : 1 ≤ xs.length) (hn : xs.length ≤ 1000) (hr : Rd w g xs) (h : hornerO xs z = some r) :
    Calls Try.prog 53 #[.slice (some ⟨g, 0, none⟩) xs.length cap, cv z] w fun e w' => e = .returned (cv r) ∧ Below w.heap.size w w' := by
  have HR := Lib.hid hr
  have HH := Lib.hid h
  have hc := hr.2 (xs.length - 1) (by omega)
  clear hr h
  go_enter Try.func53, Try.ntmps53
  go_wp2
  go_loopw [6, 7] (fun v i wr => ∃ (j : Nat) (u : C), j ≤ xs.length - 1 ∧ Hid (hz xs z j = some u) ∧ v = cv u ∧ i = .int .i64 ((xs.length : Int) - 2 - j) ∧ ∃ m, wr = w.drewN m) (fun _ i _ => (intOf i + 1).toNat)
  case atStart => exact ⟨0, _, by omega, Lib.hid rfl, rfl, by go_num, 0, rfl⟩
  case round =>
    obtain ⟨j, u, hj, hu, rfl, rfl, m, rfl⟩ := hrel
    by_cases hlt : j < xs.length - 1
    · obtain ⟨p, q, hp, hq, hs⟩ := hz_succ HH.out hlt hu.out
      have hx := HR.out.2 (xs.length - 2 - j) (by omega)
      have HS := Lib.hid hs
      clear hs hu
      go_wp2_with fail
      go_quiet ((first
        | (go_at_call 74; exact quietL (impl_MulComplex u z p hp _))
        | (go_at_call 29; exact quietL (impl_plus p _ q hq _))))
      go_wp2
      go_roundw
      case rel => exact ⟨j + 1, q, by omega, HS, rfl, by go_num, _, rfl⟩
      case measure => simp [intOf]; omega
    · have hu2 : hornerO xs z = some u := by
        have e : j = xs.length - 1 := by omega
        have := hu.out
        rw [e] at this
        exact this
      have e2 : r = u := Option.some.inj (HH.out.symm.trans hu2)
      have E := Lib.hid e2
      clear hu2 e2 hu
      go_wp2
      go_ret
      exact ⟨ret_cv E.out.symm, below_drewN (Below.refl _ _) m⟩

theorem impl_finite (x : C) (h : FinC x) (w : World) :
    Calls Try.prog 52 #[cv x] w fun e w' => e = .returned (.tuple #[cv x, .bool true]) ∧ Below w.heap.size w w' := by
  go_enter Try.func52, Try.ntmps52
  go_wp2_with (go_at_call 73; refine (impl_IsFiniteComplex x h _).mono ?_; rintro e w' ⟨rfl, hb⟩)
  go_ret2
  exact ⟨rfl, hb⟩

theorem impl_isRooted (g cap : Nat) (xs : List C) (w : World) (hr : Rd w g xs) (hv : VP xs) (h2 : 2 ≤ xs.length) :
    Calls Try.prog 24 #[.agg #[.slice (some ⟨g, 0, none⟩) xs.length cap]] w fun e w' => e = .returned (.bool true) ∧ Below w.heap.size w w' := by
  have hn := hv.most
  have hd : decide ((1 : Int) < xs.length) = true := by simp; omega
  go_enter Try.func24, Try.ntmps24
  go_wp2_with (go_at_call 50; refine (impl_ValidPoly g cap xs _ (hr.alloc _) hv).mono ?_; rintro e w' ⟨rfl, hb⟩; have hc1 := box_cell hb)
  all_goals (go_ret; exact ⟨rfl, (Below.refl _ _).alloc (Nat.le_refl _) _ |>.trans (hb.mono (by simp))⟩)

theorem new_cell (w : World) (v : Value) (T : TypeId) : (w.alloc (.cells #[v] T)).cell? ⟨w.heap.size, 0, none⟩ = some v := by
  rw [cell_of_row _ _ _ _ _ _ (heap_alloc_new w _)]; rfl
theorem size_box {w w1 : World} {o : Obj} (h : Below (w.alloc o).heap.size (w.alloc o) w1) : w.heap.size < w1.heap.size := by
  have := h.size; simp at this; omega
theorem keep1 {w w1 w2 : World} {o o1 : Obj} (h : Below (w.alloc o).heap.size (w.alloc o) w1) (k : Below (w1.alloc o1).heap.size (w1.alloc o1) w2) :
    w2.cell? ⟨w.heap.size, 0, none⟩ = w1.cell? ⟨w.heap.size, 0, none⟩ := by
  have h1 : w.heap.size < w1.heap.size := by have := h.size; simp at this; omega
  rw [k.cell (by simp; omega), World.cell?_alloc_lt w1 o1 _ h1]
theorem below_alloc {w w' : World} {o : Obj} (h : Below (w.alloc o).heap.size (w.alloc o) w') : Below w.heap.size w w' := ((Below.refl _ _).alloc (Nat.le_refl _) _).trans (h.mono (by simp))
/-- One number in a block of its own, behind calls. -/
theorem one_rd (w : World) (x : C) (T : TypeId) : Rd (w.alloc (.cells #[cv x] T)) w.heap.size [x] := by
  refine ⟨by simp, fun k hk => ?_⟩
  obtain rfl : k = 0 := by simp at hk; omega
  rw [cell_of_row _ _ _ _ _ _ (heap_alloc_new w _)]; rfl
theorem one_fin {x : C} (h : FinC x) : AllFin [x] := by
  intro k hk
  obtain rfl : k = 0 := by simp at hk; omega
  exact h

set_option maxHeartbeats 400000 in
theorem impl_PolyAt (g cap : Nat) (xs : List C) (z r : C) (w : World) (hr : Rd w g xs) (hv : VP xs) (hz : FinC z) (h : hornerO xs z = some r) (hf : FinC r) :
    Calls Try.prog 28 #[.agg #[.slice (some ⟨g, 0, none⟩) xs.length cap], cv z] w fun e w' => e = .returned (.tuple #[cv r, .bool true]) ∧ Below w.heap.size w w' := by
  have hn := hv.most
  have h1 := hv.pos
  have HH := Lib.hid h
  clear h
  go_enter Try.func28, Try.ntmps28
  go_wp2_with (first
    | (go_at_call 50; refine (impl_ValidPoly g cap xs _ (hr.alloc _) hv).mono ?_; rintro e w1 ⟨rfl, hb1⟩; have hc1 := box_cell hb1; have hr1 := (hr.alloc _).below hb1)
    | (go_at_call 51; refine (impl_allFinite w1.heap.size 1 [z] _ (by simp) (one_rd w1 z _) (one_fin hz)).mono ?_; rintro e w2 ⟨rfl, hb2⟩; have hc2 := (keep1 hb1 hb2).trans hc1; have hr2 := (hr1.alloc _).below hb2)
    | (go_at_call 53; refine (impl_nested g cap xs z r w2 h1 (by omega) hr2 HH.out).mono ?_; rintro e w3 ⟨rfl, hb3⟩)
    | (go_at_call 52; refine (impl_finite r hf w3).mono ?_; rintro e w4 ⟨rfl, hb4⟩))
  go_ret2
  exact ⟨rfl, (Below.refl _ _).alloc (Nat.le_refl _) _ |>.trans (hb1.mono (by simp)) |> (below_trans · (below_alloc hb2)) |> (below_trans · hb3) |> (below_trans · hb4)⟩
end Go.Proofs.Ytlhdgbiaiacpfaa
