/- The drawn roots as numbers, and the terms of their polynomial, all exact. -/
import Derived.Test.YtlhdgbiaiacpfaaN6
import Derived.Test.YtlhdgbiaiacpfaaW19
namespace Go.Proofs.Ytlhdgbiaiacpfaa
open Go.RowKit Num Ieee
open G
def chk (f : Format) (w : Nat) (x : Rat) : Bool :=
  match f.read w with
  | .number s m p => decide (vD (.number s m p) = x)
  | _ => false
theorem chk_R {f : Format} {w : Nat} {x : Rat} (h : chk f w x = true) : R f w x := by
  unfold chk at h
  split at h
  · rename_i s m p e
    exact ⟨s, m, p, e, by simpa using h⟩
  · cases h
def rootG (k a b : Int) : G := ⟨(k:Rat) + (a:Rat) / 8 - 3 / 2, ((b:Rat) - 8) / 8⟩
theorem draw_vals : (List.range 4).all (fun k => (List.range 5).all fun a => (List.range 17).all fun b => match drawO k a b with
    | some z => chk single z.1 (rootG k a b).x && chk single z.2 (rootG k a b).y
    | none => false) = true := by decide +kernel
theorem draw_R {k a b : Int} {z : C} (hk : 0 ≤ k) (hk2 : k < 4) (ha : 0 ≤ a) (ha2 : a < 5) (hb : 0 ≤ b) (hb2 : b < 17) (h : drawO k a b = some z) : RC z (rootG k a b) := by
  obtain ⟨k, rfl⟩ := Int.eq_ofNat_of_zero_le hk
  obtain ⟨a, rfl⟩ := Int.eq_ofNat_of_zero_le ha
  obtain ⟨b, rfl⟩ := Int.eq_ofNat_of_zero_le hb
  have h1 := draw_vals
  rw [List.all_eq_true] at h1
  have h2 := h1 k (by simp; omega)
  rw [List.all_eq_true] at h2
  have h3 := h2 a (by simp; omega)
  rw [List.all_eq_true] at h3
  have h4 := h3 b (by simp; omega)
  rw [h] at h4
  simp only [Bool.and_eq_true] at h4
  exact ⟨chk_R h4.1, chk_R h4.2⟩
/-- Where the root with the index i lies. -/
structure Rt (i : Nat) (X : G) : Prop where
  lo : (i:Rat) - 3/2 ≤ X.x
  hi : X.x ≤ (i:Rat) - 1
  im : Ab X.y 1
  on : OnG (-3) X
theorem on3 (k : Int) : On (-3) ((k:Rat) / 8) := by
  refine ⟨k, ?_⟩
  have h : (2:Rat)^(-3:Int) = 1/8 := by decide +kernel
  rw [h]; grind
theorem rootG_Rt {i : Nat} {a b : Int} (ha : 0 ≤ a) (ha2 : a < 5) (hb : 0 ≤ b) (hb2 : b < 17) : Rt i (rootG i a b) := by
  have a1 : ((0:Int):Rat) ≤ (a:Rat) := by exact_mod_cast ha
  have a2 : (a:Rat) ≤ ((4:Int):Rat) := by exact_mod_cast (by omega : a ≤ 4)
  have b1 : ((0:Int):Rat) ≤ (b:Rat) := by exact_mod_cast hb
  have b2 : (b:Rat) ≤ ((16:Int):Rat) := by exact_mod_cast (by omega : b ≤ 16)
  have e0 : ((0:Int):Rat) = 0 := rfl
  have e4 : ((4:Int):Rat) = 4 := rfl
  have e16 : ((16:Int):Rat) = 16 := rfl
  rw [e0] at a1 b1
  rw [e4] at a2
  rw [e16] at b2
  have ei : (((i:Int)):Rat) = (i:Rat) := by push_cast; rfl
  unfold rootG
  refine ⟨?_, ?_, ?_, ?_, ?_⟩
  · rw [ei]; grind
  · rw [ei]; grind
  · unfold Ab; constructor <;> grind
  · have h := on3 (8 * i + a - 12)
    have e : ((8 * i + a - 12 : Int) : Rat) / 8 = ((i:Int):Rat) + (a:Rat) / 8 - 3 / 2 := by push_cast; grind
    rwa [e] at h
  · have h := on3 (b - 8)
    have e : ((b - 8 : Int) : Rat) / 8 = ((b:Rat) - 8) / 8 := by push_cast; grind
    rwa [e] at h
/-- The roots as numbers. -/
structure Roots (rs : List C) (r : Nat → G) : Prop where
  rc : ∀ i, i < rs.length → RC (at_ rs i) (r i)
  rt : ∀ i, i < rs.length → Rt i (r i)
theorem Drawn.roots {rs : List C} (h : Drawn rs) (hn : rs.length ≤ 4) : ∃ r, Roots rs r := by
  have key : ∀ i, ∃ X : G, i < rs.length → RC (at_ rs i) X ∧ Rt i X := by
    intro i
    by_cases hi : i < rs.length
    · obtain ⟨a, b, ha, ha2, hb, hb2, hd⟩ := h i hi
      exact ⟨rootG i a b, fun _ => ⟨draw_R (by omega) (by omega) ha ha2 hb hb2 hd, rootG_Rt ha ha2 hb hb2⟩⟩
    · exact ⟨z0, fun h => absurd h hi⟩
  exact ⟨fun i => (key i).choose, fun i hi => ((key i).choose_spec hi).1, fun i hi => ((key i).choose_spec hi).2⟩

/-! Sizes of the terms. -/
/-- How long the root with the index i is, at most. -/
def rho : Nat → Rat
  | 0 => 181/100
  | 1 => 113/100
  | 2 => 142/100
  | _ => 224/100
theorem rho_ok : ∀ i : Nat, i < 4 → (if i = 0 then (9/4:Rat) else if i = 3 then 4 else if i = 2 then 1 else 1/4) + 1 ≤ rho i * rho i ∧ 0 ≤ rho i := by decide +kernel
theorem rt_le {i : Nat} {X : G} (h : Rt i X) (hi : i < 4) : Le X (rho i) one_ := by
  obtain ⟨h1, h2⟩ := rho_ok i hi
  refine le_one h2 (Rat.le_trans ?_ h1)
  have hx : X.x * X.x ≤ (if i = 0 then (9/4:Rat) else if i = 3 then 4 else if i = 2 then 1 else 1/4) := by
    have l := h.lo
    have u := h.hi
    obtain rfl | rfl | rfl | rfl : i = 0 ∨ i = 1 ∨ i = 2 ∨ i = 3 := by omega
    · have : Ab X.x (3/2) := by unfold Ab; push_cast at l u; constructor <;> grind
      have := sq_le_of_ab this
      simp; grind
    · have : Ab X.x (1/2) := by unfold Ab; push_cast at l u; constructor <;> grind
      have := sq_le_of_ab this
      simp; grind
    · have : Ab X.x 1 := by unfold Ab; push_cast at l u; constructor <;> grind
      have := sq_le_of_ab this
      simp; grind
    · have : Ab X.x 2 := by unfold Ab; push_cast at l u; constructor <;> grind
      have := sq_le_of_ab this
      simp; grind
  have hy := sq_le_of_ab h.im
  unfold N
  generalize (if i = 0 then (9/4:Rat) else if i = 3 then 4 else if i = 2 then 1 else 1/4) = q at *
  grind
def bt : Nat → Nat → Rat
  | 0, k => if k = 0 then 1 else 0
  | n + 1, k => (if k = 0 then 0 else bt n (k - 1)) + rho n * bt n k
theorem cf_le {r : Nat → G} : ∀ n, n ≤ 4 → (∀ i, i < n → Rt i (r i)) → ∀ k, Le (cf r n k) (bt n k) one_ := by
  intro n
  induction n with
  | zero =>
    intro _ _ k
    simp only [cf, bt]
    split
    · exact Le.self _
    · exact Le.zero (by grind)
  | succ n ih =>
    intro hn hr k
    have h := ih (by omega) (fun i hi => hr i (by omega))
    simp only [cf, bt]
    refine Le.sub ?_ ?_
    · unfold up
      split
      · exact Le.zero (by grind)
      · exact h _
    · have := (rt_le (hr n (by omega)) (by omega)).mul (h k)
      rwa [mul_one] at this
theorem cf_on {r : Nat → G} : ∀ n, (∀ i, i < n → OnG (-3) (r i)) → ∀ k, OnG (-3 * n) (cf r n k) := by
  intro n
  induction n with
  | zero =>
    intro _ k
    simp only [cf]
    split
    · exact ⟨On.int 1, On.int 0⟩
    · exact ⟨On.int 0, On.int 0⟩
  | succ n ih =>
    intro hr k
    have h := ih (fun i hi => hr i (by omega))
    simp only [cf]
    refine OnG.sub ?_ ?_
    · unfold up
      split
      · exact ⟨On.zero _, On.zero _⟩
      · exact (h _).lower (by omega)
    · have := (hr n (by omega)).mul (h k)
      rwa [show (-3 : Int) + -3 * n = -3 * ((n + 1 : Nat) : Int) by omega] at this
theorem bt_le : ∀ n : Nat, n < 5 → ∀ k : Nat, k < 6 → bt n k ≤ 17 := by decide +kernel
theorem bt_zero : ∀ n k, n < k → bt n k = 0 := by
  intro n
  induction n with
  | zero => intro k h; simp [bt]; omega
  | succ n ih =>
    intro k h
    simp only [bt]
    rw [if_neg (by omega), ih (k - 1) (by omega), ih k (by omega)]
    grind
theorem bt_17 (n k : Nat) (hn : n ≤ 4) : bt n k ≤ 17 := by
  by_cases h : k < 6
  · exact bt_le n (by omega) k h
  · rw [bt_zero n k (by omega)]; decide
theorem cf_bd {r : Nat → G} (n : Nat) (hn : n ≤ 4) (hr : ∀ i, i < n → Rt i (r i)) (k : Nat) : Bd (cf r n k) 17 :=
  (cf_le n hn hr k).bd.mono (bt_17 n k hn)

/-! The words of the terms. -/
theorem tm_at {c : List C} {k : Nat} (h : k < c.length) : tm c k = at_ c k := by rw [tm, if_pos ⟨by omega, by omega⟩]; rfl
theorem tm_out {c : List C} {k : Int} (h : k < 0 ∨ (c.length : Int) ≤ k) : tm c k = (0, 0) := by rw [tm, if_neg (by omega)]
/-- The list's words stand for the numbers. -/
def Rl (c : List C) (f : Nat → G) : Prop := ∀ k, k < c.length → RC (at_ c k) (f k)
theorem RC_00 : RC (0, 0) z0 := ⟨R_00, R_00⟩
theorem Rl.get {c : List C} {f : Nat → G} (h : Rl c f) (hz : ∀ k, c.length ≤ k → f k = z0) (k : Nat) : RC (tm c k) (f k) := by
  by_cases e : k < c.length
  · rw [tm_at e]; exact h k e
  · rw [tm_out (by omega), hz k (by omega)]; exact RC_00
theorem Rl.getu {c : List C} {f : Nat → G} (h : Rl c f) (hz : ∀ k, c.length ≤ k → f k = z0) (k : Nat) : RC (tm c ((k:Int) - 1)) (up f k) := by
  unfold up
  split
  · rename_i e; subst e; rw [tm_out (by omega)]; exact RC_00
  · rw [show (k:Int) - 1 = ((k - 1 : Nat) : Int) by omega]
    exact h.get hz _
theorem Rl.snoc {l : List C} {f : Nat → G} {x : C} (h : Rl l f) (hx : RC x (f l.length)) : Rl (l ++ [x]) f := by
  intro k hk
  simp at hk
  by_cases e : k < l.length
  · rw [at_append e]; exact h k e
  · obtain rfl : k = l.length := by omega
    rw [at_last]; exact hx
theorem p24 : (17:Rat) * 2 * 3 * 2 < (2:Rat)^(24 + (-3 + -9 : Int)) := by decide +kernel
theorem mrO_R {r : Nat → G} {n : Nat} (hn : n < 4) (hr : ∀ i, i < n + 1 → Rt i (r i)) {c : List C} {z : C} (hc : c.length = n + 1) (h : Rl c (cf r n)) (hz : RC z (r n)) :
    ∀ j, j ≤ n + 2 → ∃ l, mrO c z j = some l ∧ l.length = j ∧ Rl l (cf r (n + 1)) := by
  have hz0 : ∀ k, c.length ≤ k → cf r n k = z0 := fun k hk => cf_zero r n k (by omega)
  intro j
  induction j with
  | zero => intro _; exact ⟨[], rfl, rfl, fun k hk => by simp at hk⟩
  | succ j ih =>
    intro hj
    obtain ⟨l, h1, h2, h3⟩ := ih (by omega)
    have b1 : Bd (r n) 3 := (rt_le (hr n (by omega)) hn).bd.mono (by
      have : ∀ i : Nat, i < 4 → rho i ≤ 3 := by decide +kernel
      exact this n hn)
    have b2 := cf_bd n (by omega) (fun i hi => hr i (by omega)) j
    have o1 := (hr n (by omega)).on
    have o2 : OnG (-9) (cf r n j) := (cf_on n (fun i hi => (hr i (by omega)).on) j).lower (by omega)
    have hp := p24
    have hh1 : (1000:Rat) ≤ huge := by decide +kernel
    obtain ⟨m, m1, m2⟩ := mulO_on hz (h.get hz0 j) b1 b2 o1 o2 (by omega) (by grind) (by grind)
    have b3 : Bd (up (cf r n) j - r n * cf r n j) 17 := cf_bd (n + 1) (by omega) hr j
    have o3 : OnG (-12) (up (cf r n) j - r n * cf r n j) := by
      have := cf_on (n + 1) (fun i hi => (hr i (by omega)).on) j
      exact this.lower (by omega)
    obtain ⟨x, x1, x2⟩ := minusO_on (h.getu hz0 j) m2 b3 o3 (by omega) (by grind) (by grind)
    refine ⟨l ++ [x], ?_, by simp [h2], h3.snoc (by rw [h2]; exact x2)⟩
    simp [mrO, h1, m1, x1]
theorem prO_R {rs : List C} {r : Nat → G} (hl : rs.length ≤ 4) (hr : Roots rs r) : ∀ n, n ≤ rs.length → ∃ c, prO rs n = some c ∧ c.length = n + 1 ∧ Rl c (cf r n) := by
  intro n
  induction n with
  | zero =>
    intro _
    refine ⟨[(1065353216, 0)], rfl, rfl, fun k hk => ?_⟩
    obtain rfl : k = 0 := by simp at hk; omega
    have h1 : R single 1065353216 1 := chk_R (by decide +kernel)
    exact ⟨h1, R_00⟩
  | succ n ih =>
    intro hn
    obtain ⟨c, h1, h2, h3⟩ := ih (by omega)
    obtain ⟨l, l1, l2, l3⟩ := mrO_R (n := n) (by omega) (fun i hi => hr.rt i (by omega)) h2 h3 (hr.rc n (by omega)) (n + 2) (by omega)
    exact ⟨l, by simp [prO, h1, mulRootO, h2, l1], l2, l3⟩
end Go.Proofs.Ytlhdgbiaiacpfaa
