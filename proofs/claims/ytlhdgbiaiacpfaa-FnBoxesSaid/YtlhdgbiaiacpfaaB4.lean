/- How many roots are in a box: the program's and the reference's. No condition but that the operations are valid and finite. -/
import Derived.Test.YtlhdgbiaiacpfaaB3
namespace Go.Proofs.Ytlhdgbiaiacpfaa
open Go.RowKit

/-- The integer below. -/
def floor64 (x : Nat) : Option Nat :=
  match FloatKind.f64.decode x with
  | .nan _ _ => none
  | d => some (FloatKind.f64.encode (d.integral .down))
noncomputable def floorRun (x : Nat) (o : Option Nat) (w : World) : Result Next :=
  match o with
  | some r => .ok (.value (.float .f64 r)) w
  | none => (callFunc 48 #[.float .f64 x]).run Try.prog w
@[go_sem] theorem floorRun_some (x r : Nat) (w : World) : floorRun x (some r) w = .ok (.value (.float .f64 r)) w := rfl
@[go_sem] theorem call_floor (x : Nat) (w : World) : (callFunc 48 #[.float .f64 x]).run Try.prog w = floorRun x (floor64 x) w := by
  cases h : floor64 x with
  | none => rfl
  | some r =>
    rw [run_callFunc_extern Try.func48 (by kernel_rfl) (by kernel_rfl) (by kernel_rfl) (e := Extern.MathFloor.toIntegral "math.archFloor" .down) (by kernel_rfl)]
    have e : Extern.MathFloor.toIntegral "math.archFloor" .down #[.float .f64 x] = (match FloatKind.f64.decode x with
      | .nan s t =>
        if FloatKind.f64.format.quiet t = t then pure (.float .f64 x) else do
        let kept ← choose (.extern "math.Floor,Ceil,Trunc,RoundToEven.signallingNaN kept" 2)
        pure (.float .f64 (if kept == 1 then x else FloatKind.f64.encode (.nan s (FloatKind.f64.format.quiet t))))
      | d => pure (.float .f64 (FloatKind.f64.encode (d.integral .down)))) := rfl
    rw [e]
    unfold floor64 at h
    cases hd : FloatKind.f64.decode x <;> rw [hd] at h <;> simp at h <;> subst h <;> simp [floorRun, Sem.run_pure]

theorem math_Floor (x r : Nat) (h : floor64 x = some r) (w : World) :
    Calls Try.prog 22 #[.float .f64 x] w fun e w' => e = .returned (.float .f64 r) ∧ w = w' := by
  go_enter Try.func22, Try.ntmps22
  go_wp2
  go_ret
  exact ⟨rfl, rfl⟩

/-- The whole number nearest to s: n, f as a number of 64 bits. -/
structure Flo (s f : Nat) (n : Int) : Prop where
  ex : ∃ u W, add32 s 1056964608 = some u ∧ wid u = some W ∧ floor64 W = some f
  toI : floatToIntVal .f64 f .i64 = some n
  lt0 : (FloatKind.f64.format.order f 0 == some .lt) = decide (n < 0)
  gtd : ∀ d : Nat, d ≤ 1000 → (FloatKind.f64.format.order f (floatOfInt .f64 (d : Int)) == some .gt) = decide ((d : Int) < n)
/-- Whether a count is one: l terms. -/
def okN (n : Int) (l : Nat) : Bool := decide (0 ≤ n) && decide (n < l)
theorem ret_ib {a b : Int} {c d : Bool} (h : a = b) (h2 : c = d) : Ending.returned (.tuple #[.int .i64 a, .bool c]) = .returned (.tuple #[.int .i64 b, .bool d]) := by rw [h, h2]

set_option maxHeartbeats 1000000 in
theorem impl_RootsOfBox (g cap : Nat) (ys : List C) (low high : C) (m s f : Nat) (n : Int) (w : World) (hr : Rd w g ys) (hv : VP ys) (h2 : 2 ≤ ys.length) (hm : 4 ≤ m) (hm2 : m ≤ 64) (h : BoxOk ys low high m s) (hf : Flo s f n) :
    Calls Try.prog 8 #[.agg #[.slice (some ⟨g, 0, none⟩) ys.length cap], cv low, cv high, .int .i64 m] w fun e w' => e = .returned (.tuple #[.int .i64 (if okN n ys.length then n else 0), .bool (okN n ys.length)]) ∧ Below w.heap.size w w' := by
  obtain ⟨⟨u, W, f1, f2, f3⟩, f4, f5, f6⟩ := hf
  have hl := hv.most
  have hd : ((ys.length : Int) - 1) = ((ys.length - 1 : Nat) : Int) := by omega
  have F6 := f6 (ys.length - 1) (by omega)
  rw [← hd] at F6
  have HB := Lib.hid h
  have HV := Lib.hid hv
  have HR := Lib.hid hr
  clear h hv hr f6 hd
  unfold add32 at f1
  unfold wid at f2
  by_cases hn : n < 0
  · rw [decide_eq_true hn] at f5
    have ho : okN n ys.length = false := by unfold okN; simp; omega
    rw [ho]
    clear F6 hn ho
    go_enter Try.func8, Try.ntmps8
    go_wp2_with (first
      | (go_at_call 9; refine (impl_TurnsOfBox g cap ys low high m s _ (HR.out.alloc _) HV.out h2 hm hm2 HB.out).mono ?_; rintro e w1 ⟨rfl, hb1⟩; have hc1 := box_cell hb1)
      | (go_at_call 22; (with_reducible refine (math_Floor W f f3 _).mono ?_); rintro e w' ⟨rfl, rfl⟩))
    all_goals (go_ret2; exact ⟨rfl, below_alloc hb1⟩)
  · rw [decide_eq_false hn] at f5
    by_cases hn2 : ((ys.length : Int) - 1) < n
    · rw [decide_eq_true hn2] at F6
      have ho : okN n ys.length = false := by unfold okN; simp; omega
      rw [ho]
      clear hn hn2 ho
      go_enter Try.func8, Try.ntmps8
      go_wp2_with (first
        | (go_at_call 9; refine (impl_TurnsOfBox g cap ys low high m s _ (HR.out.alloc _) HV.out h2 hm hm2 HB.out).mono ?_; rintro e w1 ⟨rfl, hb1⟩; have hc1 := box_cell hb1)
        | (go_at_call 23; refine (impl_degree g ys.length cap _ (by omega)).mono ?_; rintro e w2 ⟨rfl, hb2⟩)
        | (go_at_call 22; (with_reducible refine (math_Floor W f f3 _).mono ?_); rintro e w' ⟨rfl, rfl⟩))
      all_goals (go_ret2; exact ⟨rfl, below_trans (below_alloc hb1) hb2⟩)
    · rw [decide_eq_false hn2] at F6
      have ho : okN n ys.length = true := by unfold okN; simp; omega
      rw [ho]
      clear hn hn2 ho
      go_enter Try.func8, Try.ntmps8
      go_wp2_with (first
        | (go_at_call 9; refine (impl_TurnsOfBox g cap ys low high m s _ (HR.out.alloc _) HV.out h2 hm hm2 HB.out).mono ?_; rintro e w1 ⟨rfl, hb1⟩; have hc1 := box_cell hb1)
        | (go_at_call 23; refine (impl_degree g ys.length cap _ (by omega)).mono ?_; rintro e w2 ⟨rfl, hb2⟩)
        | (go_at_call 22; (with_reducible refine (math_Floor W f f3 _).mono ?_); rintro e w' ⟨rfl, rfl⟩))
      all_goals (go_ret2; exact ⟨rfl, below_trans (below_alloc hb1) hb2⟩)

theorem spec_l00In_b (n a b : Int) (w : World) :
    Calls Try.prog 37 #[.int .i64 n, .int .i64 a, .int .i64 b] w fun e w' => e = .returned (.bool (decide (a ≤ n) && decide (n ≤ b))) ∧ w = w' := by
  by_cases h1 : a ≤ n
  · by_cases h2 : n ≤ b
    · refine (spec_l00In n a b w h1 h2).mono ?_
      rintro e w' ⟨rfl, rfl⟩
      rw [decide_eq_true h1, decide_eq_true h2]
      exact ⟨rfl, rfl⟩
    · rw [decide_eq_true h1, decide_eq_false h2]
      go_enter Try.func37, Try.ntmps37
      go_wp2
      all_goals (go_ret; exact ⟨rfl, rfl⟩)
  · rw [decide_eq_false h1]
    go_enter Try.func37, Try.ntmps37
    go_wp2
    all_goals (go_ret; exact ⟨rfl, rfl⟩)

set_option maxHeartbeats 1000000 in
theorem spec_l05InBox (bp g cap : Nat) (ys : List C) (low high : C) (m s f : Nat) (n : Int) (w : World) (hp : w.cell? ⟨bp, 0, none⟩ = some (.slice (some ⟨g, 0, none⟩) ys.length cap)) (hr : Rd w g ys) (hv : VP ys) (hm : 4 ≤ m) (hm2 : m ≤ 64) (h : BoxOk ys low high m s) (hf : Flo s f n) :
    Calls Try.prog 61 #[.pointer (some ⟨bp, 0, none⟩), cv low, cv high, .int .i64 m] w fun e w' => e = .returned (.tuple #[.int .i64 n, .bool (okN n ys.length)]) ∧ Below w.heap.size w w' := by
  obtain ⟨⟨u, W, f1, f2, f3⟩, f4, f5, f6⟩ := hf
  have hl := hv.most
  have hl1 := hv.pos
  have hwl : IntKind.i64.wrap ((ys.length : Int) - 1) = (ys.length : Int) - 1 := IntWalk.i64_in _ (by omega)
  have ho : (decide (0 ≤ n) && decide (n ≤ (ys.length : Int) - 1)) = okN n ys.length := by
    unfold okN
    rw [show decide (n ≤ (ys.length : Int) - 1) = decide (n < (ys.length : Int)) from decide_eq_decide.2 (by omega)]
  have HB := Lib.hid h
  have HV := Lib.hid hv
  have HR := Lib.hid hr
  have HP := Lib.hid hp
  clear h hv hr f6 hl hl1 hp f5
  unfold add32 at f1
  unfold wid at f2
  go_enter Try.func61, Try.ntmps61
  go_wp2_with (first
    | (go_at_call 79; refine (spec_l05Turns bp g cap ys low high m s _ HP.out HR.out HV.out hm hm2 HB.out).mono ?_; rintro e w1 ⟨rfl, hb1⟩; have hc1 := kc hb1 HP.out)
    | (go_at_call 37; refine (spec_l00In_b n 0 ((ys.length : Int) - 1) _).mono ?_; rintro e w' ⟨rfl, rfl⟩)
    | (go_at_call 22; (with_reducible refine (math_Floor W f f3 _).mono ?_); rintro e w' ⟨rfl, rfl⟩))
  go_ret2
  exact ⟨rfl, hb1⟩
end Go.Proofs.Ytlhdgbiaiacpfaa
