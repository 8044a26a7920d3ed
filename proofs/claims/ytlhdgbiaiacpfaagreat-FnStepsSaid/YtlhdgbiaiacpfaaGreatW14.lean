/- Contracts of the sine and the phasor, the program's and the reference's. No condition but that the operations are valid, and where the turns lie. -/
import Derived.Test.YtlhdgbiaiacpfaaGreatW13
namespace Go.Proofs.YtlhdgbiaiacpfaaGreat
open Go.RowKit

/-- 8, 7, .. 1, 0. -/
def sinK : Nat → Nat
  | 0 => 4620693217682128896
  | i + 1 => (sub64 (sinK i) one64).getD 0
def sinK2 (i : Nat) : Nat := (mul64 two64 (sinK i)).getD 0
def sinK3 (i : Nat) : Nat := (add64 (sinK2 i) one64).getD 0
/-- 2 k (2 k + 1). -/
def sinD (i : Nat) : Nat := (mul64 (sinK2 i) (sinK3 i)).getD 0
def sinP (u : Nat) : Nat → Option Nat
  | 0 => some one64
  | i + 1 => (sinP u i).bind fun p => (mul64 u p).bind fun up => (div64 up (sinD i)).bind fun q => sub64 one64 q
def sinO (f : Nat) : Option Nat := (mul64 f tau64).bind fun z => (mul64 z z).bind fun u => (sinP u 8).bind fun p => mul64 z p
theorem sinP_some {u r : Nat} : ∀ {n j : Nat}, sinP u n = some r → j ≤ n → ∃ v, sinP u j = some v := by
  intro n j
  induction n generalizing r with
  | zero => intro h hj; obtain rfl : j = 0 := by omega
            exact ⟨r, h⟩
  | succ n ih =>
    intro h hj
    by_cases e : j = n + 1
    · subst e; exact ⟨r, h⟩
    · simp only [sinP, Option.bind_eq_some_iff] at h
      obtain ⟨v, hv, _⟩ := h
      exact ih hv (by omega)
theorem sinP_succ {u r n j : Nat} (h : sinP u n = some r) (hj : j < n) {p : Nat} (hp : sinP u j = some p) :
    ∃ up q p', mul64 u p = some up ∧ div64 up (sinD j) = some q ∧ sub64 one64 q = some p' ∧ sinP u (j + 1) = some p' := by
  obtain ⟨p', hu⟩ := sinP_some h (j := j + 1) (by omega)
  have hu' := hu
  simp only [sinP, hp, Option.bind_some, Option.bind_eq_some_iff] at hu'
  obtain ⟨up, h1, q, h2, h3⟩ := hu'
  exact ⟨up, q, p', h1, h2, h3, hu⟩
theorem sinK_facts : ∀ i : Nat, i < 8 → mul64 two64 (sinK i) = some (sinK2 i) ∧ add64 (sinK2 i) one64 = some (sinK3 i) ∧ mul64 (sinK2 i) (sinK3 i) = some (sinD i) ∧ sub64 (sinK i) one64 = some (sinK (i + 1)) ∧
    FloatKind.f64.format.order (sinK i) one64 = some (if i = 7 then .eq else .gt) := by
  have h : ((List.range 8).all fun i => (mul64 two64 (sinK i) == some (sinK2 i)) && (add64 (sinK2 i) one64 == some (sinK3 i)) && (mul64 (sinK2 i) (sinK3 i) == some (sinD i)) && (sub64 (sinK i) one64 == some (sinK (i + 1)))
    && (FloatKind.f64.format.order (sinK i) one64 == some (if i = 7 then .eq else .gt))) = true := by kernel_rfl
  intro i hi
  have := List.all_eq_true.1 h i (List.mem_range.2 hi)
  simp only [Bool.and_eq_true, beq_iff_eq] at this
  exact ⟨this.1.1.1.1, this.1.1.1.2, this.1.1.2, this.1.2, this.2⟩
theorem sinK_less : ∀ i, i < 8 → fm (.float .f64 (sinK (i + 1))) < fm (.float .f64 (sinK i)) := by
  have h : ((List.range 8).all fun i => decide (fm (.float .f64 (sinK (i + 1))) < fm (.float .f64 (sinK i)))) = true := by kernel_rfl
  intro i hi
  have := List.all_eq_true.1 h i (List.mem_range.2 hi)
  simpa using this
theorem sinK_8 : FloatKind.f64.format.order (sinK 8) one64 = some .lt := by kernel_rfl
theorem sinK_int : ∀ i : Nat, i < 8 → floatOfInt .f64 (wrap64 (2 * (8 - (i : Int)) * (2 * (8 - (i : Int)) + 1))) = sinD i := by
  have h : ((List.range 8).all fun i => floatOfInt .f64 (wrap64 (2 * (8 - ((i : Nat) : Int)) * (2 * (8 - (i : Int)) + 1))) == sinD i) = true := by kernel_rfl
  intro i hi
  have := List.all_eq_true.1 h i (List.mem_range.2 hi)
  simpa using this

/-- Turns of which no whole ones are to be taken away; f is what is left. -/
structure TurnIn (y f0 : Nat) : Prop where
  lt : y < 18446744073709551616
  tr : ∃ z, trunc64 y = some z ∧ FloatKind.f64.format.order z 0 = some .eq
  toI : floatToIntVal .f64 y .i64 = some 0
  self : sub64 y y = some 0
  hi : FloatKind.f64.format.order y 4841369599423283200 = some .lt
  lo : FloatKind.f64.format.order y 14064741636278059008 = some .gt
  abs : FloatKind.f64.format.order (absW y) 4841369599423283200 = some .lt
  sub : sub64 y 0 = some f0
/-- From 0 on, up to a quarter. -/
structure SinIn (y f : Nat) : Prop extends TurnIn y f where
  nneg : (FloatKind.f64.format.order f 0 == some .lt) = false
  half : FloatKind.f64.format.order f half64 = some .lt
  quarter : (FloatKind.f64.format.order f quarter64 == some .gt) = false

theorem impl_partOfTurn (y f0 f : Nat) (neg : Bool) (w : World) (h : TurnIn y f0) (hn : (FloatKind.f64.format.order f0 0 == some .lt) = neg) (ha : (if neg then add64 f0 one64 else some f0) = some f) :
    Calls Tryz.prog 138 #[.float .f64 y] w fun e w' => e = .returned (.float .f64 f) ∧ w = w' := by
  obtain ⟨_, ⟨z, h1, h2⟩, _, _, _, _, _, h3⟩ := h
  unfold sub64 at h3
  unfold add64 one64 at ha
  have H1 := Lib.hid h1
  clear h1
  cases neg <;> simp only [Bool.false_eq_true, if_false, if_true, Option.some.injEq] at ha
  all_goals
    try subst ha
    go_enter Tryz.func138, Tryz.ntmps138
    go_wp2_with (go_at_call 153; refine (math_Trunc y z H1.out _).mono ?_; rintro e w' ⟨rfl, rfl⟩)
    go_ret
    exact ⟨rfl, rfl⟩

set_option maxHeartbeats 1000000 in
theorem impl_sine (y f r : Nat) (w : World) (hi : SinIn y f) (h : sinO f = some r) :
    Calls Tryz.prog 139 #[.float .f64 y] w fun e w' => e = .returned (.float .f64 r) ∧ w = w' := by
  simp only [sinO, Option.bind_eq_some_iff] at h
  obtain ⟨z, h1, u, h2, p, h3, h4⟩ := h
  have HT := hi.toTurnIn
  have hnn := hi.nneg
  have hh := hi.half
  have hq := hi.quarter
  unfold half64 at hh
  unfold quarter64 at hq
  have H3 := Lib.hid h3
  have HN := Lib.hid hnn
  unfold mul64 tau64 at h1
  unfold mul64 at h2 h4
  clear h3 hnn
  go_enter Tryz.func139, Tryz.ntmps139
  go_wp2_with (go_at_call 138; refine (impl_partOfTurn y f f false _ HT HN.out rfl).mono ?_; rintro e w' ⟨rfl, rfl⟩)
  go_loop [7, 8] (fun s k => ∃ (i v : Nat), i ≤ 8 ∧ Hid (sinP u i = some v) ∧ s = .float .f64 v ∧ k = .float .f64 (sinK i)) (fun _ k => fm k)
  case atStart => exact ⟨0, one64, by omega, Lib.hid rfl, rfl, rfl⟩
  case round =>
    obtain ⟨i, v, hi8, hv, rfl, rfl⟩ := hrel
    by_cases hlt : i < 8
    · obtain ⟨f1, f2, f3, f4, f5⟩ := sinK_facts i hlt
      obtain ⟨up, q, v', k1, k2, k3, k4⟩ := sinP_succ H3.out hlt hv.out
      have H4 := Lib.hid k4
      have HM := Lib.hid (sinK_less i hlt)
      unfold mul64 two64 at f1
      unfold add64 one64 at f2
      unfold mul64 at f3 k1
      unfold sub64 one64 at f4 k3
      unfold one64 at f5
      unfold div64 at k2
      clear k4 hv
      by_cases h7 : i = 7
      · subst h7
        rw [if_pos rfl] at f5
        go_wp2
        go_round
        case rel => exact ⟨8, v', by omega, H4, rfl, rfl⟩
        case measure => exact HM.out
      · rw [if_neg h7] at f5
        go_wp2
        go_round
        case rel => exact ⟨i + 1, v', by omega, H4, rfl, rfl⟩
        case measure => exact HM.out
    · have e8 : i = 8 := by omega
      subst e8
      have f5 := sinK_8
      unfold one64 at f5
      have e2 : v = p := Option.some.inj (hv.out.symm.trans H3.out)
      subst e2
      clear hv
      go_wp2
      go_ret
      exact ⟨rfl, rfl⟩

set_option maxHeartbeats 1000000 in
theorem spec_l01SineWide (y f r : Nat) (w : World) (hi : SinIn y f) (h : sinO f = some r) :
    Calls Tryz.prog 146 #[.float .f64 y] w fun e w' => e = .returned (.float .f64 r) ∧ w = w' := by
  simp only [sinO, Option.bind_eq_some_iff] at h
  obtain ⟨z, h1, u, h2, p, h3, h4⟩ := h
  obtain ⟨⟨_, _, g1, g2, g3, g4, _, g5⟩, hnn, hh, hq⟩ := hi
  have h00 : FloatKind.f64.format.order 0 0 = some .eq := by kernel_rfl
  have f00 : floatOfInt .f64 0 = 0 := by kernel_rfl
  unfold half64 at hh
  unfold quarter64 at hq
  unfold sub64 at g2 g5
  have H3 := Lib.hid h3
  unfold mul64 tau64 at h1
  unfold mul64 at h2 h4
  clear h3
  go_enter Tryz.func146, Tryz.ntmps146
  go_wp2
  go_loop [7, 8] (fun s k => ∃ (i v : Nat), i ≤ 8 ∧ Hid (sinP u i = some v) ∧ s = .float .f64 v ∧ k = .int .i64 (8 - i)) (fun _ k => (intOf k).toNat)
  case atStart => exact ⟨0, one64, by omega, Lib.hid rfl, rfl, rfl⟩
  case round =>
    obtain ⟨i, v, hi8, hv, rfl, rfl⟩ := hrel
    by_cases hlt : i < 8
    · obtain ⟨up, q, v', k1, k2, k3, k4⟩ := sinP_succ H3.out hlt hv.out
      have H4 := Lib.hid k4
      have f5 := sinK_int i hlt
      unfold mul64 at k1
      unfold sub64 one64 at k3
      unfold div64 at k2
      clear k4 hv
      go_wp2
      go_round
      case rel => exact ⟨i + 1, v', by omega, H4, rfl, by go_num⟩
      case measure => simp [intOf]; omega
    · have e8 : i = 8 := by omega
      have e2 : v = p := Option.some.inj (hv.out.symm.trans (e8 ▸ H3.out))
      subst e2
      clear hv
      go_wp2
      go_ret
      exact ⟨rfl, rfl⟩

theorem impl_isHuge (y : Nat) (h : y < 18446744073709551616) (h1 : FloatKind.f64.format.order (absW y) 4841369599423283200 = some .lt) (w : World) :
    Calls Tryz.prog 137 #[.float .f64 y] w fun e w' => e = .returned (.bool false) ∧ w = w' := by
  go_enter Tryz.func137, Tryz.ntmps137
  go_wp2_with (go_at_call 152; refine (math_Abs y h _).mono ?_; rintro e w' ⟨rfl, rfl⟩)
  go_ret
  exact ⟨rfl, rfl⟩

/-- float32(math.NaN()): some not-a-number. -/
noncomputable def nanV (w : World) : Nat := (Question.nanConv .f32 9221120237041090561).cut (w.tape w.drawn (Question.nanConv .f32 9221120237041090561))
@[go_sem] theorem conv_nan (w : World) : fcvRun Tryz.prog 35 31 .f64 9221120237041090561 .f32 (floatToFloatBits .f64 9221120237041090561 .f32) w = .ok (.float .f32 (nanV w)) w.drew := by
  have e : floatToFloatBits .f64 9221120237041090561 .f32 = none := by kernel_rfl
  have hs : Tryz.prog.underlying 35 = some (.float .f64) := Tryz.underlying35
  have hd : Tryz.prog.underlying 31 = some (.float .f32) := Tryz.underlying31
  have hn : FloatKind.f64.decode 9221120237041090561 = .nan false 2251799813685249 := by kernel_rfl
  have ne : ¬ (FloatKind.f64 = FloatKind.f32) := by decide
  rw [e]
  simp [fcvRun, convert, run_underlying hs, run_underlying hd, Conv.floatToFloat, ne, hn, Question.forced, nanV]

/-- f less q quarters, each taken away on its own. -/
def subQ (f : Nat) : Nat → Option Nat
  | 0 => some f
  | i + 1 => (subQ f i).bind fun g => sub64 g quarter64
structure PhIn (y f0 f g : Nat) (neg : Bool) (q : Nat) : Prop extends TurnIn y f0 where
  hneg : (FloatKind.f64.format.order f0 0 == some .lt) = neg
  hadd : (if neg then add64 f0 one64 else some f0) = some f
  hsub : subQ f q = some g
  hge : ∀ i h, i < q → subQ f i = some h → (FloatKind.f64.format.order h quarter64 == some .gt || FloatKind.f64.format.order h quarter64 == some .eq) = true
  hlt : FloatKind.f64.format.order g quarter64 = some .lt
/-- What is made of the cosine and the sine. -/
def phR (q c s : Nat) : Option (Nat × Nat) :=
  if q = 1 then (sub64 0 s).bind fun a => some (a, c)
  else if q = 2 then (sub64 0 c).bind fun a => (sub64 0 s).bind fun b => some (a, b)
  else if q = 3 then (sub64 0 c).bind fun a => some (s, a)
  else some (c, s)
end Go.Proofs.YtlhdgbiaiacpfaaGreat
