/- The values of a polynomial, of its slope and of the slope of this, near a root. -/
import Derived.Test.YtlhdgbiaiacpfaaN8
namespace Go.Proofs.Ytlhdgbiaiacpfaa
open Go.RowKit Num Ieee
open G
/-- The product of what z is off the first n roots but that with the index i; its slope; the slope of this. -/
def dd (r : Nat → G) (i : Nat) (z : G) : Nat → G
  | 0 => one_
  | n + 1 => if n = i then dd r i z n else (z - r n) * dd r i z n
def ss (r : Nat → G) (i : Nat) (z : G) : Nat → G
  | 0 => z0
  | n + 1 => if n = i then ss r i z n else (z - r n) * ss r i z n + dd r i z n
def tt (r : Nat → G) (i : Nat) (z : G) : Nat → G
  | 0 => z0
  | n + 1 => if n = i then tt r i z n else (z - r n) * tt r i z n + sc 2 (ss r i z n)
theorem P0_zero (r : Nat → G) (z : G) : P0 r 0 z = one_ := rfl
theorem P1_zero (r : Nat → G) (z : G) : P1 r 0 z = z0 := by unfold P1 V; ext <;> simp [Hz, sl, cf, z0]
theorem P2_zero (r : Nat → G) (z : G) : P2 r 0 z = z0 := by unfold P2 V; ext <;> simp [Hz, sl, cf, z0]
theorem before (r : Nat → G) (i : Nat) (z : G) : ∀ n, n ≤ i → P0 r n z = dd r i z n ∧ P1 r n z = ss r i z n ∧ P2 r n z = tt r i z n := by
  intro n
  induction n with
  | zero => intro _; exact ⟨P0_zero r z, P1_zero r z, P2_zero r z⟩
  | succ n ih =>
    intro h
    obtain ⟨h0, h1, h2⟩ := ih (by omega)
    simp only [dd, ss, tt]
    rw [if_neg (by omega), if_neg (by omega), if_neg (by omega), P0_succ, P1_succ, P2_succ, h0, h1, h2]
    exact ⟨rfl, rfl, rfl⟩
theorem behind (r : Nat → G) (i : Nat) (z : G) : ∀ n, i < n → P0 r n z = (z - r i) * dd r i z n ∧ P1 r n z = dd r i z n + (z - r i) * ss r i z n ∧ P2 r n z = sc 2 (ss r i z n) + (z - r i) * tt r i z n := by
  intro n
  induction n with
  | zero => intro h; omega
  | succ n ih =>
    intro h
    by_cases e : n = i
    · subst e
      obtain ⟨h0, h1, h2⟩ := before r n z n (Nat.le_refl _)
      simp only [dd, ss, tt, if_true]
      rw [P0_succ, P1_succ, P2_succ, h0, h1, h2]
      refine ⟨rfl, ?_, ?_⟩
      · ext <;> simp <;> grind
      · ext <;> simp <;> grind
    · obtain ⟨h0, h1, h2⟩ := ih (by omega)
      simp only [dd, ss, tt]
      rw [if_neg e, if_neg e, if_neg e, P0_succ, P1_succ, P2_succ, h0, h1, h2]
      refine ⟨?_, ?_, ?_⟩
      · ext <;> simp <;> grind
      · ext <;> simp <;> grind
      · ext <;> simp <;> grind
/-- What z is off the root with the index j: its inverse is at most so long. -/
def mi (i j : Nat) : Rat := if (if i ≤ j then j - i else i - j) = 1 then 64/31 else if (if i ≤ j then j - i else i - j) = 2 then 64/95 else 64/159
def u64 : G := ⟨1/64, 0⟩
theorem off_le {i j : Nat} {X Y : G} (hi : i < 4) (hj : j < 4) (hij : j ≠ i) (hX : Rt i X) (hY : Rt j Y) : Le one_ (mi i j) (X + u64 - Y) := by
  have l1 := hX.lo
  have u1 := hX.hi
  have l2 := hY.lo
  have u2 := hY.hi
  have hy := sq_nn (X.y - Y.y)
  have key : ∀ q : Rat, 0 ≤ q → (q ≤ (X.x + 1/64 - Y.x) ∨ q ≤ -(X.x + 1/64 - Y.x)) → q * q ≤ N (X + u64 - Y) := by
    intro q hq h
    have hx : q * q ≤ (X.x + 1/64 - Y.x) * (X.x + 1/64 - Y.x) := by
      rcases h with h | h
      · exact mul_mono hq hq h h
      · have := mul_mono hq hq h h; grind
    unfold N u64
    simp only [add_x, add_y, sub_x, sub_y]
    grind
  have fin : ∀ q p : Rat, q * p = 1 → 0 ≤ p → q * q ≤ N (X + u64 - Y) → Le one_ p (X + u64 - Y) := by
    intro q p h hp hn
    refine ⟨hp, ?_⟩
    rw [N_one]
    have h2 := Rat.mul_le_mul_of_nonneg_left hn (Rat.mul_nonneg hp hp)
    have e : p * p * (q * q) = 1 := by rw [show p * p * (q * q) = (q * p) * (q * p) by grind, h]; grind
    rw [e] at h2
    exact h2
  have c : i = 0 ∨ i = 1 ∨ i = 2 ∨ i = 3 := by omega
  have d : j = 0 ∨ j = 1 ∨ j = 2 ∨ j = 3 := by omega
  rcases c with rfl | rfl | rfl | rfl <;> rcases d with rfl | rfl | rfl | rfl
  all_goals first
    | (exfalso; exact hij rfl)
    | (refine fin (31/64) _ (by decide +kernel) (by decide +kernel) (key _ (by decide +kernel) ?_); push_cast at l1 u1 l2 u2; first | (left; grind) | (right; grind))
    | (refine fin (95/64) _ (by decide +kernel) (by decide +kernel) (key _ (by decide +kernel) ?_); push_cast at l1 u1 l2 u2; first | (left; grind) | (right; grind))
    | (refine fin (159/64) _ (by decide +kernel) (by decide +kernel) (key _ (by decide +kernel) ?_); push_cast at l1 u1 l2 u2; first | (left; grind) | (right; grind))
def c1 (i : Nat) : Nat → Rat
  | 0 => 0
  | n + 1 => if n = i then c1 i n else c1 i n + mi i n
def c2 (i : Nat) : Nat → Rat
  | 0 => 0
  | n + 1 => if n = i then c2 i n else c2 i n + 2 * c1 i n * mi i n
def d0 (i : Nat) : Nat → Rat
  | 0 => 1
  | n + 1 => if n = i then d0 i n else d0 i n * mi i n
/-- The bounds, by the number of roots: of the slope, of its slope, of the inverse, of what the value is off. -/
def kS : Nat → Rat
  | 0 => 0
  | 1 => 0
  | 2 => 207/100
  | 3 => 413/100
  | _ => 481/100
def kT : Nat → Rat
  | 0 => 0
  | 1 => 0
  | 2 => 0
  | 3 => 853/100
  | _ => 1421/100
def kd : Nat → Rat
  | 0 => 1
  | 1 => 1
  | 2 => 2065/1000
  | 3 => 4263/1000
  | _ => 2872/1000
def kv : Nat → Rat
  | 0 => 1/1000
  | 1 => 1/1000
  | 2 => 2/1000
  | 3 => 16/1000
  | _ => 60/1000
theorem kd_le : ∀ n : Nat, n < 5 → kd n ≤ 4263/1000 ∧ 0 ≤ kd n := by decide +kernel
theorem consts : ∀ i : Nat, i < 4 → ∀ n : Nat, n < 5 → i < n → c1 i n ≤ kS n ∧ c2 i n ≤ kT n ∧ d0 i n ≤ kd n := by decide +kernel
theorem Le.sc {A Y : G} {a k : Rat} (h : Le A a Y) (hk : 0 ≤ k) : Le (G.sc k A) (k * a) Y := by
  refine ⟨Rat.mul_nonneg hk h.1, ?_⟩
  have e : N (G.sc k A) = k * k * N A := by unfold N; simp only [sc_x, sc_y]; grind
  rw [e]
  have := Rat.mul_le_mul_of_nonneg_left h.2 (Rat.mul_nonneg hk hk)
  grind
theorem rel {r : Nat → G} {i : Nat} {m : Nat} (hh : ∀ j, j < m → j ≠ i → Le one_ (mi i j) (r i + u64 - r j)) :
    ∀ n, n ≤ m → Le (ss r i (r i + u64) n) (c1 i n) (dd r i (r i + u64) n) ∧ Le (tt r i (r i + u64) n) (c2 i n) (dd r i (r i + u64) n) ∧ Le one_ (d0 i n) (dd r i (r i + u64) n) := by
  intro n
  induction n with
  | zero => intro _; exact ⟨Le.zero (by unfold c1; grind), Le.zero (by unfold c2; grind), Le.self _⟩
  | succ n ih =>
    intro hn
    obtain ⟨h1, h2, h3⟩ := ih (by omega)
    by_cases e : n = i
    · simp only [dd, ss, tt, c1, c2, d0, if_pos e]
      exact ⟨h1, h2, h3⟩
    · have hm := hh n (by omega) e
      simp only [dd, ss, tt, c1, c2, d0, if_neg e]
      generalize r i + u64 - r n = U at *
      generalize dd r i (r i + u64) n = D at *
      generalize ss r i (r i + u64) n = S at *
      generalize tt r i (r i + u64) n = T at *
      have hD : Le D (mi i n) (U * D) := by
        have := hm.mul (Le.self D)
        rw [one_mul] at this
        exact this.mono (by grind)
      refine ⟨?_, ?_, ?_⟩
      · exact (((Le.self U).mul h1).mono (by grind)).add hD
      · refine (((Le.self U).mul h2).mono (by grind)).add ?_
        have := (h1.trans hD).sc (k := 2) (by decide)
        exact this.mono (by grind)
      · have := h3.mul hm
        rw [one_mul, mul_comm] at this
        exact this
end Go.Proofs.Ytlhdgbiaiacpfaa
