/- The value at a root, exactly, and what the miss of a root asks. -/
import Derived.Test.YtlhdgbiaiacpfaaN9
namespace Go.Proofs.Ytlhdgbiaiacpfaa
open Go.RowKit Num Ieee
open G
theorem cf_grid {r : Nat → G} : ∀ n, (∀ i, i < n → OnG (-3) (r i)) → ∀ k, OnG (-3 * ((n - k : Nat) : Int)) (cf r n k) := by
  intro n
  induction n with
  | zero =>
    intro _ k
    simp only [cf]
    split
    · exact ⟨(On.int 1).lower (by omega), (On.int 0).lower (by omega)⟩
    · exact ⟨On.zero _, On.zero _⟩
  | succ n ih =>
    intro hr k
    have h := ih (fun i hi => hr i (by omega))
    by_cases hk : n + 1 < k
    · rw [cf_zero r (n + 1) k hk]; exact ⟨On.zero _, On.zero _⟩
    simp only [cf]
    refine OnG.sub ?_ ?_
    · unfold up
      split
      · exact ⟨On.zero _, On.zero _⟩
      · exact (h _).lower (by omega)
    · by_cases hk2 : k = n + 1
      · subst hk2
        rw [cf_zero r n (n + 1) (by omega)]
        have e : r n * z0 = z0 := by ext <;> simp [z0] <;> grind
        rw [e]
        exact ⟨On.zero _, On.zero _⟩
      · exact ((hr n (by omega)).mul (h k)).lower (by omega)
theorem horner_on {xs : List C} {f : Nat → G} {b : Nat → Rat} {m : Nat} {z : C} {Z : G} {ζ : Rat} (hl : xs.length = m + 1) (h : Rl xs f) (hz : RC z Z) (hZ : Le Z ζ one_) (hf : ∀ k, Le (f k) (b k) one_)
    (hg : ∀ k, OnG (-3 * ((m - k : Nat) : Int)) (f k)) (hzg : OnG (-3) Z) (hm : m ≤ 4) (hbig : ∀ j, j ≤ m → 2 * (hb b m ζ j * ζ) < 4096 ∧ hb b m ζ j < 4096) :
    ∀ j, j ≤ m → ∃ v, Go.Proofs.Ytlhdgbiaiacpfaa.hz xs z j = some v ∧ RC v (Hz f m Z j) ∧ OnG (-3 * (j : Int)) (Hz f m Z j) := by
  have hhuge : (4096:Rat) ≤ huge := by decide +kernel
  intro j
  induction j with
  | zero =>
    intro _
    refine ⟨_, rfl, by rw [show xs.length - 1 = m by omega]; exact h m (by omega), ?_⟩
    have := hg m
    rwa [Nat.sub_self] at this
  | succ j ih =>
    intro hj
    obtain ⟨v, h1, h2, h3⟩ := ih (by omega)
    have hW := Hz_le m hf hZ j
    have hp : (4096:Rat) ≤ (2:Rat)^(24 + (-3 * (j:Int) + -3)) := by
      have h1 : (4096:Rat) = (2:Rat)^(12:Int) := by decide +kernel
      rw [h1]
      exact pw_mono (by omega)
    have hb1 := (hbig j (by omega)).1
    have hb2 := (hbig (j + 1) hj).2
    obtain ⟨p, p1, p2⟩ := mulO_on h2 hz hW.bd hZ.bd h3 hzg (by omega) (by grind) (by grind)
    have hs := Hz_le m hf hZ (j + 1)
    have hon : OnG (-3 * ((j + 1 : Nat) : Int)) (Hz f m Z (j + 1)) := by
      show OnG _ (Hz f m Z j * Z + f (m - 1 - j))
      exact ((h3.mul hzg).lower (by omega)).add ((hg _).lower (by omega))
    obtain ⟨q, q1, q2⟩ := plusO_on p2 (h (m - 1 - j) (by omega)) (B := hb b m ζ (j + 1)) hs.bd hon (by omega) (by
      have : (2:Rat)^(24 + (-3 * (j:Int) + -3)) ≤ (2:Rat)^(24 + -3 * ((j + 1 : Nat) : Int)) := pw_mono (by omega)
      grind) (by grind)
    refine ⟨q, ?_, q2, hon⟩
    simp only [Go.Proofs.Ytlhdgbiaiacpfaa.hz, h1, Option.bind_some, p1]
    rw [show xs.length - 2 - j = m - 1 - j by omega]
    exact q1
theorem hb_ok : ∀ n : Nat, n < 5 → ∀ j : Nat, j < 5 → j ≤ n → (hb (bt n) n (23/10) j + er (bt n) n (23/10) j) * (23/10) + bt n (n - 1 - j) ≤ 1000000000000 ∧ 2 * (hb (bt n) n (23/10) j * (23/10)) < 4096 ∧ hb (bt n) n (23/10) j < 4096 := by decide +kernel
theorem rt_23 {i : Nat} {X : G} (h : Rt i X) (hi : i < 4) : Le X (23/10) one_ := (rt_le h hi).mono (by
  have : ∀ i : Nat, i < 4 → rho i ≤ 23/10 := by decide +kernel
  exact this i hi)
/-- The value at a point of the grid, exactly. -/
theorem value_on {r : Nat → G} {n : Nat} {ys : List C} {z : C} {Z : G} (hn : n ≤ 4) (hrt : ∀ i, i < n → Rt i (r i)) (hl : ys.length = n + 1) (h : Rl ys (cf r n)) (hz : RC z Z) (hZ : Le Z (23/10) one_) (hg : OnG (-3) Z) :
    ∃ v, hornerO ys z = some v ∧ RC v (P0 r n Z) := by
  obtain ⟨v, h1, h2, _⟩ := horner_on (b := bt n) hl h hz hZ (cf_le n hn hrt) (cf_grid n (fun i hi => (hrt i hi).on)) hg hn (fun j hj => (hb_ok n (by omega) j (by omega) hj).2) n (Nat.le_refl _)
  exact ⟨v, by unfold hornerO; rw [show ys.length - 1 = n by omega]; exact h1, h2⟩
theorem P0_root {r : Nat → G} {n i : Nat} (hi : i < n) : P0 r n (r i) = z0 := by
  rw [(behind r i (r i) n hi).1]
  ext <;> simp [z0] <;> grind
theorem at_root {r : Nat → G} {n i : Nat} {ys : List C} {z : C} (hn : n ≤ 4) (hi : i < n) (hrt : ∀ i, i < n → Rt i (r i)) (hl : ys.length = n + 1) (h : Rl ys (cf r n)) (hz : RC z (r i)) :
    ∃ v, AtRoot ys z v ∧ RC v z0 := by
  obtain ⟨v, h1, h2⟩ := value_on hn hrt hl h hz (rt_23 (hrt i hi) (by omega)) (hrt i hi).on
  rw [P0_root hi] at h2
  exact ⟨v, ⟨hz.fin, h1, h2.fin, isZ_true h2⟩, h2⟩

/-! What the miss asks. -/
theorem mul32_nn {a b : Nat} {x y A B : Rat} (hx : R single a x) (hy : R single b y) (h0 : 0 ≤ x) (h1 : x ≤ A) (h2 : 0 ≤ y) (h3 : y ≤ B) (ht : tiny ≤ A * B) (hh : A * B ≤ huge) :
    ∃ w v, mul32 a b = some w ∧ R single w v ∧ 0 ≤ v ∧ v ≤ A * B * (1 + e24) := by
  have k : Ab (x * y) (A * B) := by
    have := (show Ab x A by unfold Ab; grind).mul (show Ab y B by unfold Ab; grind)
    exact this
  obtain ⟨w, v, w1, w2, w3⟩ := mul_s hx hy k hh
  have k2 := near_s w3 k ht
  exact ⟨w, v, w1, w2, w3.sgn.1 (Rat.mul_nonneg h0 h2), by unfold Ab at *; grind⟩
theorem add32_nn {a b : Nat} {x y A B : Rat} (hx : R single a x) (hy : R single b y) (h0 : 0 ≤ x) (h1 : x ≤ A) (h2 : 0 ≤ y) (h3 : y ≤ B) (ht : tiny ≤ A + B) (hh : A + B ≤ huge) :
    ∃ w v, add32 a b = some w ∧ R single w v ∧ 0 ≤ v ∧ v ≤ (A + B) * (1 + e24) := by
  have k : Ab (x + y) (A + B) := by unfold Ab; grind
  obtain ⟨w, v, w1, w2, w3⟩ := add_s hx hy k hh
  have k2 := near_s w3 k ht
  exact ⟨w, v, w1, w2, w3.sgn.1 (by grind), by unfold Ab at *; grind⟩
def p4 : Nat → Rat
  | 0 => 20
  | k + 1 => p4 k * 4
theorem p4_ok : ∀ k : Nat, k < 5 → 20 ≤ p4 k ∧ p4 k ≤ 5120 := by decide +kernel
theorem e24_small : e24 ≤ 1/1000 ∧ 0 ≤ e24 := by decide +kernel
theorem t_h : tiny ≤ 1 ∧ (1000000:Rat) ≤ huge := by decide +kernel
/-- Nothing, or not too little. -/
def Zl (x c : Rat) : Prop := x = 0 ∨ c ≤ x
theorem near_low {x v c : Rat} (h : Near single x v) (h0 : 0 ≤ x) (hx : Zl x c) (hc : tiny ≤ c) : Zl v (c * (1 - e24)) := by
  rcases hx with e | e
  · left
    have h1 := h.sgn.1 (by grind)
    have h2 := h.sgn.2 (by grind)
    grind
  · right
    have k := near_s (B := x) h (by unfold Ab; grind) (by grind)
    have := Rat.mul_le_mul_of_nonneg_right e (show 0 ≤ 1 - e24 by decide +kernel)
    unfold Ab at k
    grind
theorem mul32_low {a b w : Nat} {x y v A B c d : Rat} (hx : R single a x) (hy : R single b y) (h0 : 0 ≤ x) (h1 : x ≤ A) (h2 : 0 ≤ y) (h3 : y ≤ B) (hh : A * B ≤ huge) (hw : mul32 a b = some w) (hv : R single w v)
    (hc : Zl x c) (hd : Zl y d) (c0 : 0 ≤ c) (d0 : 0 ≤ d) (ht : tiny ≤ c * d) : Zl v (c * d * (1 - e24)) := by
  have k : Ab (x * y) (A * B) := (show Ab x A by unfold Ab; grind).mul (show Ab y B by unfold Ab; grind)
  obtain ⟨w', v', w1, w2, w3⟩ := mul_s hx hy k hh
  have e : w' = w := Option.some.inj (w1.symm.trans hw)
  subst e
  have e2 : v' = v := by
    obtain ⟨s, m, p, p1, p2⟩ := w2
    obtain ⟨s', m', p', q1, q2⟩ := hv
    rw [p1] at q1
    cases q1
    grind
  subst e2
  refine near_low w3 (Rat.mul_nonneg h0 h2) ?_ ht
  rcases hc with e | e
  · left; rw [e]; grind
  · rcases hd with f | f
    · left; rw [f]; grind
    · right; exact mul_mono c0 d0 e f
theorem R_inj {f : Format} {w : Nat} {x y : Rat} (h : R f w x) (k : R f w y) : x = y := by
  obtain ⟨s, m, p, p1, p2⟩ := h
  obtain ⟨s', m', p', q1, q2⟩ := k
  rw [p1] at q1
  cases q1
  grind
def lo4 : Nat → Rat
  | 0 => 1/16384
  | k + 1 => lo4 k * (1/10) * (1 - e24)
theorem lo4_ok : ∀ k : Nat, k < 6 → 1/2^32 ≤ lo4 k ∧ lo4 k ≤ 1 := by decide +kernel
theorem powO_R {p l : Nat} {x y : Rat} (hx : R single p x) (hy : R single l y) (h0 : 0 ≤ x) (h1 : x ≤ 20) (h2 : 0 ≤ y) (h3 : y ≤ 3) (hl : Zl x (1/16384)) (hl2 : Zl y (1/10)) :
    ∀ k, k ≤ 4 → ∃ w v, powO p l k = some w ∧ R single w v ∧ 0 ≤ v ∧ v ≤ p4 k ∧ Zl v (lo4 k) := by
  intro k
  induction k with
  | zero => intro _; exact ⟨p, x, rfl, hx, h0, h1, hl⟩
  | succ k ih =>
    intro hk
    obtain ⟨w, v, w1, w2, w3, w4, w5⟩ := ih (by omega)
    obtain ⟨q1, q2⟩ := p4_ok k (by omega)
    obtain ⟨t1, t2⟩ := t_h
    obtain ⟨t3, t4⟩ := e24_small
    obtain ⟨t5, t6⟩ := lo4_ok k (by omega)
    obtain ⟨u, s, u1, u2, u3, u4⟩ := mul32_nn w2 hy w3 w4 h2 h3 (by grind) (by grind)
    have t7 : (0:Rat) ≤ 1/2^32 := by decide +kernel
    have t8 : tiny ≤ 1/2^32 * (1/10) := by decide +kernel
    have hlow := mul32_low w2 hy w3 w4 h2 h3 (by grind) u1 u2 w5 hl2 (by grind) (by grind) (by grind)
    refine ⟨u, s, by simp [powO, w1, u1], u2, u3, ?_, hlow⟩
    have := Rat.mul_le_mul_of_nonneg_left t3 (show 0 ≤ p4 k * 3 by grind)
    show s ≤ p4 k * 4
    grind
def so4 : Nat → Rat
  | 0 => 1/2^32
  | k + 1 => so4 k * (1 - e24)
theorem so4_ok : ∀ k : Nat, k < 6 → 1/2^33 ≤ so4 k ∧ so4 k ≤ 1/2^32 := by decide +kernel
theorem sumO_R {xs : List C} {f : Nat → G} {m l : Nat} {y : Rat} (hl : xs.length = m + 1) (hm : m ≤ 4) (h : Rl xs f) (hb : ∀ k, N (f k) ≤ 19 * 19) (hlow : ∀ k, N (f k) = 0 ∨ 1/8192 * (1/8192) ≤ N (f k)) (hy : R single l y) (h2 : 0 ≤ y) (h3 : y ≤ 3) (hyl : Zl y (1/10)) :
    ∀ k, k ≤ m + 1 → ∃ a s, sumO xs l k = some a ∧ R single a s ∧ 0 ≤ s ∧ s ≤ 6000 * (k : Rat) ∧ Zl s (so4 k) := by
  obtain ⟨t1, t2⟩ := t_h
  obtain ⟨t3, t4⟩ := e24_small
  intro k
  induction k with
  | zero => intro _; exact ⟨0, 0, rfl, R_00, by grind, by simp, .inl rfl⟩
  | succ k ih =>
    intro hk
    obtain ⟨a, s, a1, a2, a3, a4, a5⟩ := ih (by omega)
    obtain ⟨p, P, p1, p2, p3, p4', p5⟩ := longO_R (h k (by omega)) (hb k) (by grind) (by grind)
    have p6 : Zl P (1/16384) := by
      rcases hlow k with e | e
      · left
        have e0 : RC (at_ xs k) ⟨0, 0⟩ := by have := h k (by omega); rwa [N_zero e] at this
        have := longO_zero e0
        rw [this] at p1
        cases p1
        exact R_inj p2 R_00
      · right
        have := p5 (1/8192) (by decide +kernel) e
        grind
    obtain ⟨q, Q, q1, q2, q3, q4, q6⟩ := powO_R p2 hy p3 (by grind) h2 h3 p6 hyl k (by omega)
    have q5 := (p4_ok k (by omega)).2
    have hk5 : (k : Rat) ≤ 4 := by
      have : ((k : Nat) : Rat) ≤ ((4 : Nat) : Rat) := by exact_mod_cast (by omega : k ≤ 4)
      exact this
    have hk0 : (0 : Rat) ≤ (k : Rat) := by exact_mod_cast Nat.zero_le _
    obtain ⟨s1, s2⟩ := so4_ok k (by omega)
    obtain ⟨l1, l2⟩ := lo4_ok k (by omega)
    have hZ : Zl (s + Q) (so4 k) := by
      rcases a5 with e | e
      · rcases q6 with f | f
        · left; grind
        · right; grind
      · right; grind
    have kk : Ab (s + Q) (6000 * (k : Rat) + 5120) := by unfold Ab; grind
    obtain ⟨u, v, u1, u2, u3⟩ := add_s a2 q2 kk (by grind)
    have u4 := near_s u3 kk (by grind)
    have ht33 : tiny ≤ 1/2^33 := by decide +kernel
    have u5 := near_low u3 (by grind) hZ (by grind)
    refine ⟨u, v, by simp [sumO, a1, p1, q1, show add32 a q = some u from u1], u2, u3.sgn.1 (by grind), ?_, u5⟩
    have := Rat.mul_le_mul_of_nonneg_left t3 (show 0 ≤ 6000 * (k:Rat) + 5120 by grind)
    unfold Ab at u4
    push_cast
    grind
theorem div32_zero {a : Nat} {s : Rat} (ha : R single a s) (hs : 0 < s) : div32 0 a = some 0 := by
  obtain ⟨t, n, j, h1, h2⟩ := ha
  have hn : n ≠ 0 := read_nz h1 h2 (by grind)
  have ht : t = false := by
    cases t
    · rfl
    · exfalso
      have h3 : (0:Rat) ≤ (n:Rat) := by exact_mod_cast Nat.zero_le _
      have h4 : (0:Rat) < (2:Rat)^j := Rat.zpow_pos (by decide)
      have := Rat.mul_nonneg h3 (Rat.le_of_lt h4)
      simp only [vD, if_true] at h2
      grind
  subst ht
  show single.div 0 a = _
  unfold Format.div
  have h0 : single.read 0 = .number false 0 (-149) := by decide +kernel
  rw [h1, h0]
  unfold Datum.quotient
  simp only [hn, if_false, Nat.zero_shiftLeft, Nat.zero_div, Nat.zero_mod]
  rfl
theorem order_0 {a : Nat} {s : Rat} (ha : R single a s) (hs : 0 ≤ s) : FloatKind.f32.format.order a 0 = some (if decide (0 < s) then .gt else .eq) := by
  have o := order_R ha R_00
  by_cases h : 0 < s
  · simp only [h, decide_true, if_true]; exact o.2.2 h
  · simp only [h, decide_false, Bool.false_eq_true, if_false]; exact o.2.1 (by grind)
theorem cf_N {r : Nat → G} {n : Nat} (hn : n ≤ 4) (hr : ∀ i, i < n → Rt i (r i)) (k : Nat) : N (cf r n k) ≤ 19 * 19 := by
  have := of_le_one ((cf_le n hn hr k).mono (bt_17 n k hn))
  grind
theorem grid_low {X : G} {g : Rat} (h : (∃ k : Int, X.x = (k:Rat) * g) ∧ ∃ k : Int, X.y = (k:Rat) * g) (hg : 0 ≤ g) : N X = 0 ∨ g * g ≤ N X := by
  obtain ⟨⟨k, hx⟩, ⟨l, hy⟩⟩ := h
  have key : ∀ k : Int, k ≠ 0 → g * g ≤ (k:Rat) * g * ((k:Rat) * g) := by
    intro k hk
    have h1 : (1:Int) ≤ k * k := by
      rcases Int.lt_or_lt_of_ne hk with e | e
      · have := Int.mul_le_mul (show 1 ≤ -k by omega) (show 1 ≤ -k by omega) (by omega) (by omega)
        rw [Int.neg_mul_neg] at this; omega
      · have := Int.mul_le_mul (show 1 ≤ k by omega) (show 1 ≤ k by omega) (by omega) (by omega)
        omega
    have h2 : ((1:Int):Rat) ≤ ((k * k : Int) : Rat) := by exact_mod_cast h1
    rw [Rat.intCast_mul] at h2
    have h3 := Rat.mul_le_mul_of_nonneg_right h2 (Rat.mul_nonneg hg hg)
    have : ((1:Int):Rat) = 1 := rfl
    grind
  have n1 := N_x X
  have n2 := N_y X
  by_cases a : k = 0
  · by_cases b : l = 0
    · left
      unfold N
      rw [hx, hy, a, b]
      have : ((0:Int):Rat) = 0 := rfl
      grind
    · right; have := key l b; rw [← hy] at this; grind
  · right; have := key k a; rw [← hx] at this; grind
theorem pm12 : (2:Rat)^(-12:Int) = 1/4096 := by decide +kernel
theorem pm3 : (2:Rat)^(-3:Int) = 1/8 := by decide +kernel
theorem cf_low {r : Nat → G} {n : Nat} (hn : n ≤ 4) (hr : ∀ i, i < n → Rt i (r i)) (k : Nat) : N (cf r n k) = 0 ∨ 1/8192 * (1/8192) ≤ N (cf r n k) := by
  have o : OnG (-12) (cf r n k) := (cf_on n (fun i hi => (hr i hi).on) k).lower (by omega)
  have := grid_low o (by rw [pm12]; decide +kernel)
  rw [pm12] at this
  rcases this with h | h
  · exact .inl h
  · right; grind
/-- What the miss of a point asks; W is the value there. -/
theorem miss_at {r : Nat → G} {n : Nat} {ys : List C} {z : C} {Z W : G} {v : C} (hn : n ≤ 4) (hrt : ∀ i, i < n → Rt i (r i)) (hl : ys.length = n + 1) (h : Rl ys (cf r n)) (hz : RC z Z) (hZ : Le Z (23/10) one_) (hg : OnG (-3) Z)
    (hv : hornerO ys z = some v) (hvW : RC v W) (hW : N W ≤ 1000 * 1000) :
    ∃ lv l a b q, longO v = some lv ∧ Miss ys z v l lv a q b ∧ (lv = 0 → q = 0) := by
  obtain ⟨t1, t2⟩ := t_h
  obtain ⟨t3, t4⟩ := e24_small
  obtain ⟨lv, LV, hlv, lv2, lv3, lv4, _⟩ := longO_R hvW hW (by grind) (by decide +kernel)
  obtain ⟨l, L, l1, l2, l3, l4, l5⟩ := longO_R hz (B := 23/10) (of_le_one hZ) (by grind) (by grind)
  have l6 : Zl L (1/10) := by
    have := grid_low hg (by rw [pm3]; decide +kernel)
    rw [pm3] at this
    rcases this with e | e
    · left
      have e0 : RC z ⟨0, 0⟩ := by rwa [N_zero e] at hz
      rw [longO_zero e0] at l1
      cases l1
      exact R_inj l2 R_00
    · right
      have := l5 (1/8) (by decide +kernel) e
      grind
  obtain ⟨a, s, a1, a2, a3, a4, a5⟩ := sumO_R hl hn h (fun k => cf_N hn hrt k) (fun k => cf_low hn hrt k) l2 l3 (by grind) l6 (n + 1) (Nat.le_refl _)
  obtain ⟨s1, s2⟩ := so4_ok (n + 1) (by omega)
  by_cases hs : 0 < s
  · have hslow : 1/2^33 ≤ s := by
      rcases a5 with e | e <;> grind
    by_cases h0 : lv = 0
    · subst h0
      refine ⟨0, l, a, true, 0, hlv, ⟨hv, hvW.fin, hz.fin, l1, hlv, by rw [hl]; exact a1, Fin_R a2, ?_, fun _ => ⟨div32_zero a2 hs, Fin_R R_00⟩⟩, fun _ => rfl⟩
      rw [order_0 a2 a3]; simp [hs]
    · obtain ⟨q, hq⟩ : ∃ q : Rat, q * s = LV := ⟨LV / s, div_mul_self (by grind)⟩
      have hqb : Ab q (2^45) := by
        have e45 : (2000:Rat) ≤ 2^45 * (1/2^33) := by decide +kernel
        have := Rat.mul_le_mul_of_nonneg_left hslow (show (0:Rat) ≤ 2^45 by decide +kernel)
        constructor
        · exact le_of_mul hs (by grind)
        · exact le_of_mul hs (by grind)
      obtain ⟨w, v', D, w1, w2, _, _⟩ := div_s lv2 a2 (by grind) hq hqb (by decide +kernel)
      refine ⟨lv, l, a, true, w, hlv, ⟨hv, hvW.fin, hz.fin, l1, hlv, by rw [hl]; exact a1, Fin_R a2, ?_, fun _ => ⟨w1, Fin_R w2⟩⟩, fun e => absurd e h0⟩
      rw [order_0 a2 a3]; simp [hs]
  · refine ⟨lv, l, a, false, 0, hlv, ⟨hv, hvW.fin, hz.fin, l1, hlv, by rw [hl]; exact a1, Fin_R a2, ?_, fun e => by cases e⟩, fun _ => rfl⟩
    rw [order_0 a2 a3]; simp [hs]
end Go.Proofs.Ytlhdgbiaiacpfaa
