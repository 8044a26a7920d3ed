/- Sizes of complex numbers of rational parts, and values of polynomials. Plain. -/
import Derived.Test.YtlhdgbiaiacpfaaN5
namespace Go.Proofs.Ytlhdgbiaiacpfaa
open Go.RowKit Num Ieee
open G
/-- The length of A is at most a times that of Y. -/
def Le (A : G) (a : Rat) (Y : G) : Prop := 0 ≤ a ∧ N A ≤ a * a * N Y
def one_ : G := ⟨1, 0⟩
theorem N_one : N one_ = 1 := by unfold N one_; grind
theorem Le.mono {A Y : G} {a b : Rat} (h : Le A a Y) (k : a ≤ b) : Le A b Y := by
  refine ⟨by have := h.1; grind, Rat.le_trans h.2 ?_⟩
  exact Rat.mul_le_mul_of_nonneg_right (mul_mono h.1 h.1 k k) (N_nn Y)
/-- The mixed term: at most the product of the lengths. -/
theorem mixed {A B : G} {p q : Rat} (hp : 0 ≤ p) (hq : 0 ≤ q) {n : Rat} (hn : 0 ≤ n) (ha : N A ≤ p * p * n) (hb : N B ≤ q * q * n) : A.x * B.x + A.y * B.y ≤ p * q * n := by
  have h1 := sq_nn (A.x * B.y - A.y * B.x)
  have h2 : (A.x * B.x + A.y * B.y) * (A.x * B.x + A.y * B.y) ≤ N A * N B := by unfold N; grind
  have h3 := mul_mono (N_nn A) (N_nn B) ha hb
  refine le_of_sq (Rat.mul_nonneg (Rat.mul_nonneg hp hq) hn) ?_
  have e : p * q * n * (p * q * n) = p * p * n * (q * q * n) := by grind
  grind
theorem Le.add {A B Y : G} {a b : Rat} (h : Le A a Y) (k : Le B b Y) : Le (A + B) (a + b) Y := by
  refine ⟨by have := h.1; have := k.1; grind, ?_⟩
  have hm := mixed h.1 k.1 (N_nn Y) h.2 k.2
  have h2 := h.2
  have k2 := k.2
  have e : N (A + B) = N A + N B + 2 * (A.x * B.x + A.y * B.y) := by unfold N; simp only [add_x, add_y]; grind
  rw [e]
  generalize A.x * B.x + A.y * B.y = m at *
  grind
theorem Le.neg {A Y : G} {a : Rat} (h : Le A a Y) : Le (-A) a Y := by
  refine ⟨h.1, ?_⟩
  have e : N (-A) = N A := by unfold N; simp only [neg_x, neg_y]; grind
  rw [e]; exact h.2
theorem sub_eq (A B : G) : A - B = A + -B := by ext <;> simp <;> grind
theorem Le.sub {A B Y : G} {a b : Rat} (h : Le A a Y) (k : Le B b Y) : Le (A - B) (a + b) Y := by rw [sub_eq]; exact h.add k.neg
theorem Le.mul {A B Y Z : G} {a b : Rat} (h : Le A a Y) (k : Le B b Z) : Le (A * B) (a * b) (Y * Z) := by
  refine ⟨Rat.mul_nonneg h.1 k.1, ?_⟩
  rw [N_mul, N_mul]
  have := mul_mono (N_nn A) (N_nn B) h.2 k.2
  grind
theorem Le.self (Y : G) : Le Y 1 Y := ⟨by grind, by grind⟩
theorem Le.zero {Y : G} {a : Rat} (h : 0 ≤ a) : Le ⟨0, 0⟩ a Y := by
  refine ⟨h, ?_⟩
  have := Rat.mul_nonneg (Rat.mul_nonneg h h) (N_nn Y)
  have e : N ⟨0, 0⟩ = 0 := by unfold N; grind
  rw [e]; exact this
theorem Le.trans {A Y Z : G} {a b : Rat} (h : Le A a Y) (k : Le Y b Z) : Le A (a * b) Z := by
  refine ⟨Rat.mul_nonneg h.1 k.1, Rat.le_trans h.2 ?_⟩
  have := Rat.mul_le_mul_of_nonneg_left k.2 (Rat.mul_nonneg h.1 h.1)
  grind
theorem mul_comm (A B : G) : A * B = B * A := by ext <;> simp <;> grind
theorem mul_assoc (A B C : G) : A * B * C = A * (B * C) := by ext <;> simp <;> grind
theorem add_mul (A B C : G) : (A + B) * C = A * C + B * C := by ext <;> simp <;> grind
theorem mul_add (A B C : G) : A * (B + C) = A * B + A * C := by ext <;> simp <;> grind
theorem sub_mul (A B C : G) : (A - B) * C = A * C - B * C := by ext <;> simp <;> grind
theorem one_mul (A : G) : one_ * A = A := by unfold one_; ext <;> simp <;> grind
theorem mul_one (A : G) : A * one_ = A := by unfold one_; ext <;> simp <;> grind
/-- The length of A is at most a. -/
theorem le_one {A : G} {a : Rat} (h0 : 0 ≤ a) (h : N A ≤ a * a) : Le A a one_ := ⟨h0, by rw [N_one]; grind⟩
theorem of_le_one {A : G} {a : Rat} (h : Le A a one_) : N A ≤ a * a := by have := h.2; rw [N_one] at this; grind
theorem Le.bd {A : G} {a : Rat} (h : Le A a one_) : Bd A a := bd_N h.1 (of_le_one h)
theorem bd_le {A : G} {a : Rat} (h : Bd A a) : Le A (a * (3/2)) one_ := by
  have h0 := h.nn
  refine le_one (by grind) ?_
  have := N_bd h
  have := sq_nn a
  grind

/-! Values of polynomials, from the last term on. -/
def z0 : G := ⟨0, 0⟩
def Hz (c : Nat → G) (m : Nat) (z : G) : Nat → G
  | 0 => c m
  | j + 1 => Hz c m z j * z + c (m - 1 - j)
def V (c : Nat → G) (m : Nat) (z : G) : G := Hz c m z m
def up (c : Nat → G) (k : Nat) : G := if k = 0 then z0 else c (k - 1)
theorem Hz_up (c : Nat → G) (m : Nat) (z : G) : ∀ j, j ≤ m → Hz (up c) (m + 1) z j = Hz c m z j := by
  intro j
  induction j with
  | zero => intro _; simp [Hz, up]
  | succ j ih =>
    intro h
    simp only [Hz]
    rw [ih (by omega)]
    have : up c (m + 1 - 1 - j) = c (m - 1 - j) := by unfold up; rw [if_neg (by omega)]; congr 1; omega
    rw [this]
theorem V_up (c : Nat → G) (m : Nat) (z : G) : V (up c) (m + 1) z = V c m z * z := by
  unfold V
  show Hz (up c) (m + 1) z m * z + up c (m + 1 - 1 - m) = _
  rw [Hz_up c m z m (Nat.le_refl _)]
  have : up c (m + 1 - 1 - m) = z0 := by unfold up; rw [if_pos (by omega)]
  rw [this]
  ext <;> simp [z0] <;> grind
theorem Hz_add (c d : Nat → G) (m : Nat) (z : G) : ∀ j, Hz (fun k => c k + d k) m z j = Hz c m z j + Hz d m z j := by
  intro j
  induction j with
  | zero => rfl
  | succ j ih => simp only [Hz]; rw [ih]; ext <;> simp <;> grind
theorem Hz_mul (r : G) (c : Nat → G) (m : Nat) (z : G) : ∀ j, Hz (fun k => r * c k) m z j = r * Hz c m z j := by
  intro j
  induction j with
  | zero => rfl
  | succ j ih => simp only [Hz]; rw [ih]; ext <;> simp <;> grind
theorem Hz_more (c : Nat → G) (m : Nat) (z : G) (h : c (m + 1) = z0) : ∀ j, Hz c (m + 1) z (j + 1) = Hz c m z j := by
  intro j
  induction j with
  | zero =>
    show c (m + 1) * z + c (m + 1 - 1 - 0) = c m
    rw [h]
    ext <;> simp [z0] <;> grind
  | succ j ih =>
    show Hz c (m + 1) z (j + 1) * z + c (m + 1 - 1 - (j + 1)) = Hz c m z j * z + c (m - 1 - j)
    rw [ih]
    congr 2
    omega
theorem V_more (c : Nat → G) (m : Nat) (z : G) (h : c (m + 1) = z0) : V c (m + 1) z = V c m z := Hz_more c m z h m

/-- The terms of the product of the variable less each of the first n roots. -/
def cf (r : Nat → G) : Nat → Nat → G
  | 0, k => if k = 0 then one_ else z0
  | n + 1, k => up (cf r n) k - r n * cf r n k
theorem cf_zero (r : Nat → G) : ∀ n k, n < k → cf r n k = z0 := by
  intro n
  induction n with
  | zero => intro k h; simp [cf]; omega
  | succ n ih =>
    intro k h
    simp only [cf]
    rw [ih k (by omega)]
    unfold up
    rw [if_neg (by omega), ih (k - 1) (by omega)]
    ext <;> simp [z0] <;> grind
theorem cf_top (r : Nat → G) : ∀ n, cf r n n = one_ := by
  intro n
  induction n with
  | zero => rfl
  | succ n ih =>
    simp only [cf]
    rw [cf_zero r n (n + 1) (by omega)]
    unfold up
    rw [if_neg (by omega), show n + 1 - 1 = n by omega, ih]
    ext <;> simp [z0] <;> grind
/-- The terms of the slope, and of its slope. -/
def ri (k : Nat) : Rat := (k : Rat)
def sl (c : Nat → G) (k : Nat) : G := sc (ri (k + 1)) (c (k + 1))
theorem ri_succ (k : Nat) : ri (k + 1) = ri k + 1 := by unfold ri; push_cast; rfl

def P0 (r : Nat → G) (n : Nat) (z : G) : G := V (cf r n) n z
/-- The slope's value; the last index is one too great, so that it stands for every n. -/
def P1 (r : Nat → G) (n : Nat) (z : G) : G := V (sl (cf r n)) n z
def P2 (r : Nat → G) (n : Nat) (z : G) : G := V (sl (sl (cf r n))) n z
theorem V_add (c d : Nat → G) (m : Nat) (z : G) : V (fun k => c k + d k) m z = V c m z + V d m z := Hz_add c d m z m
theorem V_mul (r : G) (c : Nat → G) (m : Nat) (z : G) : V (fun k => r * c k) m z = r * V c m z := Hz_mul r c m z m
theorem V_ext {c d : Nat → G} (m : Nat) (z : G) (h : ∀ k, c k = d k) : V c m z = V d m z := by rw [show c = d from funext h]
theorem step_gen (c : Nat → G) (r : G) (m : Nat) (z : G) (h : c (m + 1) = z0) (d : Nat → G) : V (fun k => (up c k + (-r) * c k) + d k) (m + 1) z = (z - r) * V c m z + V d (m + 1) z := by
  rw [V_add, V_add, V_up, V_mul, V_more c m z h]
  ext <;> simp <;> grind
theorem P0_succ (r : Nat → G) (n : Nat) (z : G) : P0 r (n + 1) z = (z - r n) * P0 r n z := by
  unfold P0
  have e := step_gen (cf r n) (r n) n z (cf_zero r n (n + 1) (by omega)) (fun _ => z0)
  have e2 : V (fun _ => z0) (n + 1) z = z0 := by
    have : ∀ m j, Hz (fun _ => z0) m z j = z0 := by
      intro m j
      induction j with
      | zero => rfl
      | succ j ih => simp only [Hz]; rw [ih]; ext <;> simp [z0] <;> grind
    exact this _ _
  rw [e2] at e
  rw [show (z - r n) * V (cf r n) n z = (z - r n) * V (cf r n) n z + z0 by ext <;> simp [z0] <;> grind, ← e]
  exact V_ext _ _ (fun k => by simp only [cf]; ext <;> simp [z0] <;> grind)
theorem sl_zero (r : Nat → G) (n k : Nat) (h : n ≤ k) : sl (cf r n) k = z0 := by
  unfold sl; rw [cf_zero r n (k + 1) (by omega)]; ext <;> simp [z0]
theorem sl2_zero (r : Nat → G) (n k : Nat) (h : n ≤ k + 1) : sl (sl (cf r n)) k = z0 := by
  unfold sl; rw [cf_zero r n _ (by omega)]; ext <;> simp [z0]
theorem P1_succ (r : Nat → G) (n : Nat) (z : G) : P1 r (n + 1) z = (z - r n) * P1 r n z + P0 r n z := by
  unfold P1
  have e := step_gen (sl (cf r n)) (r n) n z (sl_zero r n (n + 1) (by omega)) (cf r n)
  rw [V_more (cf r n) n z (cf_zero r n (n + 1) (by omega))] at e
  show _ = _ + V (cf r n) n z
  rw [← e]
  refine V_ext _ _ (fun k => ?_)
  unfold sl
  simp only [cf]
  unfold up
  rw [if_neg (by omega), show k + 1 - 1 = k by omega]
  by_cases hk : k = 0
  · subst hk
    rw [if_pos rfl]
    ext <;> simp [z0, ri] <;> grind
  · dsimp only
    rw [if_neg hk, show k - 1 + 1 = k by omega, ri_succ]
    ext <;> simp <;> grind
theorem P2_succ (r : Nat → G) (n : Nat) (z : G) : P2 r (n + 1) z = (z - r n) * P2 r n z + sc 2 (P1 r n z) := by
  unfold P2
  have e := step_gen (sl (sl (cf r n))) (r n) n z (sl2_zero r n (n + 1) (by omega)) (fun k => (⟨2, 0⟩ : G) * sl (cf r n) k)
  rw [V_mul, V_more (sl (cf r n)) n z (sl_zero r n (n + 1) (by omega))] at e
  have e3 : sc 2 (P1 r n z) = (⟨2, 0⟩ : G) * V (sl (cf r n)) n z := by unfold P1; ext <;> simp <;> grind
  rw [e3, ← e]
  refine V_ext _ _ (fun k => ?_)
  unfold sl
  simp only [cf]
  unfold up
  rw [if_neg (by omega), show k + 1 + 1 - 1 = k + 1 by omega]
  by_cases hk : k = 0
  · subst hk
    rw [if_pos rfl]
    ext <;> simp [z0, ri] <;> grind
  · dsimp only
    rw [if_neg hk, show k - 1 + 1 = k by omega]
    simp only [ri_succ]
    ext <;> simp <;> grind
end Go.Proofs.Ytlhdgbiaiacpfaa
