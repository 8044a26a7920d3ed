/- The counts of quarters, and the narrowed box: there are such. No condition but the sizes. -/
import Derived.Test.YtlhdgbiaiacpfaaM3
import Derived.Test.YtlhdgbiaiacpfaaB10
namespace Go.Proofs.Ytlhdgbiaiacpfaa
open Go.RowKit Num Ieee
open G

/-! The counts of quarters, and the narrowed box: there are such. No condition but the sizes. -/
theorem RC.self {z : C} {X : G} (h : RC z X) : SelfC z := ⟨(order_R h.1 h.1).2.1 rfl, (order_R h.2 h.2).2.1 rfl⟩
/-- Where a quarter lies. -/
def qa (h i : Nat) : Nat := if i = 1 ∨ i = 3 then h else 0
def qb (h i : Nat) : Nat := if i = 2 ∨ i = 3 then h else 0
theorem qlo_fw {a b h i : Nat} (hi : i < 4) : qlo (fw a b) (fw (a + h) (b + h)) i = fw (a + qa h i) (b + qb h i) := by
  obtain rfl | rfl | rfl | rfl : i = 0 ∨ i = 1 ∨ i = 2 ∨ i = 3 := by omega
  all_goals rfl
theorem qhi_fw {a b h i : Nat} (hi : i < 4) : qhi (fw (a + h) (b + h)) (fw (a + 2 * h) (b + 2 * h)) i = fw (a + qa h i + h) (b + qb h i + h) := by
  have e1 : a + 2 * h = a + h + h := by omega
  have e2 : b + 2 * h = b + h + h := by omega
  rw [e1, e2]
  obtain rfl | rfl | rfl | rfl : i = 0 ∨ i = 1 ∨ i = 2 ∨ i = 3 := by omega
  all_goals rfl
theorem q_le (h i : Nat) : qa h i ≤ h ∧ qb h i ≤ h := by unfold qa qb; constructor <;> split <;> omega
theorem fam_four {r : Nat → G} {n : Nat} {ys : List C} {a b h : Nat} (hn : n ≤ 4) (hn1 : 1 ≤ n) (hrt : ∀ i, i < n → Rt i (r i)) (hl : ys.length = n + 1) (hy : Rl ys (cf r n)) (h1 : 1 ≤ h) (ha : a + 2 * h < 9) (hb : b + 2 * h < 9) :
    ∃ ns, Four ys (fw a b) (fw (a + 2 * h) (b + 2 * h)) (fw (a + h) (b + h)) 60 ns := by
  have key : ∀ i, ∃ k : Int, i < 4 → ∃ s f d, BoxOk ys (qlo (fw a b) (fw (a + h) (b + h)) i) (qhi (fw (a + h) (b + h)) (fw (a + 2 * h) (b + 2 * h)) i) 60 s ∧ Flo s f k ∧ IsBox (qlo (fw a b) (fw (a + h) (b + h)) i) (qhi (fw (a + h) (b + h)) (fw (a + 2 * h) (b + 2 * h)) i) d := by
    intro i
    by_cases hi : i < 4
    · obtain ⟨q1, q2⟩ := q_le h i
      obtain ⟨s, σ, Z, W, V, α, hall⟩ := fam_all (a := a + qa h i) (b := b + qb h i) (m := 60) hn hn1 hrt hl hy h1 (by omega) (by omega) (by omega) (by omega)
      obtain ⟨f, k, hf, _, _⟩ := hall.count (by omega)
      obtain ⟨d, hd⟩ := (fam_box (a := a + qa h i) (b := b + qb h i) h1 (by omega) (by omega)).isBox
      refine ⟨k, fun _ => ⟨s, f, d, ?_⟩⟩
      rw [qlo_fw hi, qhi_fw hi]
      exact ⟨hall.ok, hf, hd⟩
    · exact ⟨0, fun k => absurd k hi⟩
  exact ⟨fun i => (key i).choose, fam_midO h1 ha hb, fun i hi => (key i).choose_spec hi⟩
theorem fam_nrw {r : Nat → G} {n : Nat} {ys : List C} (hn : n ≤ 4) (hn1 : 1 ≤ n) (hrt : ∀ i, i < n → Rt i (r i)) (hl : ys.length = n + 1) (hy : Rl ys (cf r n)) :
    ∀ (t a b : Nat), a + 2 ^ t < 9 → b + 2 ^ t < 9 → ∃ res, Nrw ys 60 t (fw a b) (fw (a + 2 ^ t) (b + 2 ^ t)) res ∧ ∀ x, res = some x → SelfC x.1 ∧ SelfC x.2 := by
  intro t
  induction t with
  | zero =>
    intro a b ha hb
    refine ⟨some (fw a b, fw (a + 1) (b + 1)), rfl, fun x hx => ?_⟩
    injection hx with hx
    subst hx
    exact ⟨(fam_R (by omega) (by omega)).self, (fam_R (by omega) (by omega)).self⟩
  | succ t ih =>
    intro a b ha hb
    have hp : 0 < 2 ^ t := Nat.two_pow_pos t
    have e : 2 ^ (t + 1) = 2 * 2 ^ t := by rw [Nat.pow_succ, Nat.mul_comm]
    rw [e] at ha hb ⊢
    obtain ⟨ns, hf⟩ := fam_four (h := 2 ^ t) hn hn1 hrt hl hy (by omega) ha hb
    obtain ⟨d, hd⟩ := (fam_box (a := a) (b := b) (h := 2 * 2 ^ t) (by omega) ha hb).isBox
    by_cases hc : allTo (fun i => okN (ns i) ys.length) 4 = true ∧ 0 ≤ fp ns 4
    · obtain ⟨q1, q2⟩ := fp_lt ns 4
      obtain ⟨i, hi⟩ : ∃ i, i = (fp ns 4).toNat := ⟨_, rfl⟩
      have hi4 : i < 4 := by omega
      obtain ⟨q1, q2⟩ := q_le (2 ^ t) i
      obtain ⟨res, h1, h2⟩ := ih (a + qa (2 ^ t) i) (b + qb (2 ^ t) i) (by omega) (by omega)
      refine ⟨res, ⟨d, _, ns, hd, hf, ?_⟩, h2⟩
      rw [if_pos hc, ← hi, qlo_fw hi4, qhi_fw hi4]
      exact h1
    · refine ⟨none, ⟨d, _, ns, hd, hf, ?_⟩, fun x hx => by cases hx⟩
      rw [if_neg hc]

/-! The angle of a quotient of values is nearly the sum of the roots' angles. No condition but the sizes. -/
/-- A number near to another has nearly its angle. -/
theorem near_t {X Y : G} {t e : Rat} (hx : 0 < X.x) (ht : X.y = t * X.x) (hb : Ab t (1/4)) (h : Le (Y - X) e X) (he : e ≤ 1/1000) : 0 < Y.x ∧ ∃ t', Y.y = t' * Y.x ∧ Ab (t' - t) (e * (14/10)) := by
  have he0 := h.1
  have htt := sq_le_of_ab hb
  have hN : N (Y - X) ≤ (e * (104/100) * X.x) * (e * (104/100) * X.x) := by
    have h1 := h.2
    have hNX : N X ≤ 1079/1000 * (X.x * X.x) := by
      unfold N
      rw [ht]
      have e1 : X.x * X.x + t * X.x * (t * X.x) = (1 + t * t) * (X.x * X.x) := by grind
      rw [e1]
      exact Rat.mul_le_mul_of_nonneg_right (by grind) (sq_nn _)
    have h2 := Rat.mul_le_mul_of_nonneg_left hNX (sq_nn e)
    have e2 : (e * (104/100) * X.x) * (e * (104/100) * X.x) = e * e * ((104/100 * (104/100)) * (X.x * X.x)) := by grind
    rw [e2]
    have h3 : (1079/1000 : Rat) ≤ 104/100 * (104/100) := by decide +kernel
    have h4 := Rat.mul_le_mul_of_nonneg_right h3 (sq_nn X.x)
    have h5 := Rat.mul_le_mul_of_nonneg_left h4 (sq_nn e)
    grind
  have hk0 : 0 ≤ e * (104/100) * X.x := Rat.mul_nonneg (Rat.mul_nonneg he0 (by decide +kernel)) (Rat.le_of_lt hx)
  obtain ⟨dx, dy⟩ := bd_N hk0 hN
  rw [sub_x] at dx
  rw [sub_y] at dy
  have hex : e * (104/100) * X.x ≤ 2/1000 * X.x := Rat.mul_le_mul_of_nonneg_right (by grind) (Rat.le_of_lt hx)
  have hYx : 998/1000 * X.x ≤ Y.x := by unfold Ab at dx; grind
  have hY0 : 0 < Y.x := by grind
  refine ⟨hY0, Y.y / Y.x, (div_mul_self (by grind)).symm, ?_⟩
  obtain ⟨q, hq⟩ : ∃ q, q = Y.y / Y.x := ⟨_, rfl⟩
  have hqY : q * Y.x = Y.y := by rw [hq]; exact div_mul_self (by grind)
  rw [← hq]
  have e1 : (q - t) * Y.x = (Y.y - X.y) - t * (Y.x - X.x) := by rw [ht]; grind
  have k1 := hb.mul dx
  have k2 := dy.sub k1
  rw [← e1] at k2
  have hk3 : e * (104/100) * X.x + 1/4 * (e * (104/100) * X.x) ≤ e * (14/10) * Y.x := by
    have h1 := Rat.mul_le_mul_of_nonneg_left hYx (show 0 ≤ e * (14/10) from Rat.mul_nonneg he0 (by decide +kernel))
    have e3 : e * (104/100) * X.x + 1/4 * (e * (104/100) * X.x) = e * X.x * (13/10) := by grind
    have e4 : e * (14/10) * (998/1000 * X.x) = e * X.x * (13972/10000) := by grind
    have h2 := Rat.mul_nonneg he0 (Rat.le_of_lt hx)
    rw [e3]
    rw [e4] at h1
    generalize e * X.x = A at *
    clear k1 k2 e1 e3 e4 hex hk0 dx dy hN hb htt hq hqY
    grind
  have k3 := k2.mono hk3
  constructor
  · exact le_of_mul hY0 (by have := k3.1; grind)
  · exact le_of_mul hY0 k3.2
/-- The quotient of two values, against the polynomial's own. -/
theorem near_quot {V W W' P P' : G} {ε : Rat} (h1 : Le (W - P) ε P) (h2 : Le (W' - P') ε P') (hq : Le (V * W - W') (1/1000000) W') (hε : ε ≤ 47/1000000) : Le (V * P - P') (1/10000) P' := by
  have he0 := h1.1
  have a1 : Le W' (1 + ε) P' := by
    have := (Le.self P').add h2
    rwa [show P' + (W' - P') = W' by ext <;> simp <;> grind] at this
  have a2 : Le P (10001/10000) W := by
    refine Le.inv h1 (by grind) (by decide +kernel) ?_
    grind
  have a3 : Le (P - W) ε P := by
    have := h1.neg
    rwa [show -(W - P) = P - W by ext <;> simp <;> grind] at this
  have a4 : Le (V * W) (1 + 1/1000000) W' := by
    have := (Le.self W').add hq
    rwa [show W' + (V * W - W') = V * W by ext <;> simp <;> grind] at this
  have a5 := ((Le.self V).mul (a3.trans a2)).trans (a4.trans a1)
  have a6 := hq.trans a1
  have a7 := (a6.add h2).add a5
  rw [show V * W - W' + (W' - P') + V * (P - W) = V * P - P' by ext <;> simp <;> grind] at a7
  refine a7.mono ?_
  have b1 : 1/1000000 * (1 + ε) ≤ 11/10000000 := by grind
  have b2 : ε * (10001/10000) ≤ 4701/100000000 := by grind
  have b3 : (1 + 1/1000000) * (1 + ε) ≤ 10001/10000 := by grind
  have b4 := mul_mono (show 0 ≤ 1 * (ε * (10001/10000)) by have := Rat.mul_nonneg he0 (show (0:Rat) ≤ 10001/10000 by decide +kernel); grind) (show 0 ≤ (1 + 1/1000000) * (1 + ε) from Rat.mul_nonneg (by decide +kernel) (by grind)) (show 1 * (ε * (10001/10000)) ≤ 4701/100000000 by grind) b3
  have b5 : (4701/100000000 * (10001/10000) : Rat) ≤ 471/10000000 := by decide +kernel
  generalize 1 * (ε * (10001/10000)) * ((1 + 1/1000000) * (1 + ε)) = A at *
  clear a1 a2 a3 a4 a5 a6 a7 h1 h2 hq b2 b3
  grind
/-- The product of the numbers whose angles are the roots'. -/
def Xp (r : Nat → G) (Z Z' : G) : Nat → G
  | 0 => one_
  | n + 1 => ((Z' - r n) * conj (Z - r n)) * Xp r Z Z' n
theorem Xp_eq (r : Nat → G) (Z Z' : G) : ∀ n, Xp r Z Z' n = P0 r n Z' * conj (P0 r n Z) := by
  intro n
  induction n with
  | zero => rw [P0_zero, P0_zero]; unfold Xp one_; ext <;> simp <;> grind
  | succ n ih =>
    rw [P0_succ, P0_succ]
    show _ * Xp r Z Z' n = _
    rw [ih]
    ext <;> simp <;> grind
def bn : Nat → Rat
  | 0 => 0
  | 1 => 618/10000
  | 2 => 1198/10000
  | 3 => 1786/10000
  | _ => 2482/10000
def bj : Nat → Rat
  | 0 => 618/10000
  | 1 => 575/10000
  | 2 => 575/10000
  | _ => 666/10000
def ep : Nat → Rat
  | 0 => 0
  | 1 => 1/1000000
  | 2 => 2/1000000
  | 3 => 5/1000000
  | _ => 26/1000000
theorem bn_ok : ∀ n : Nat, n < 4 → ep n + dT (bn n + bj n) (bn n * bj n) ≤ ep (n + 1) ∧ bn n + bj n ≤ bn (n + 1) * (1 - bn n * bj n) ∧ bn n * bj n ≤ 1/40 ∧ 0 ≤ bn (n + 1) := by decide +kernel
/-- The angle of the product is the sum of the angles, nearly. -/
theorem prod_t {r : Nat → G} {Z Z' : G} {t : Nat → Rat} : ∀ n, n ≤ 4 → (∀ j, j < n → 0 < ((Z' - r j) * conj (Z - r j)).x ∧ ((Z' - r j) * conj (Z - r j)).y = t j * ((Z' - r j) * conj (Z - r j)).x ∧ Ab (t j) (bj j)) →
    0 < (Xp r Z Z' n).x ∧ ∃ u, (Xp r Z Z' n).y = u * (Xp r Z Z' n).x ∧ Ab u (bn n) ∧ Ab (T u - sumR (fun j => T (t j)) n) (ep n) := by
  intro n
  induction n with
  | zero =>
    intro _ _
    refine ⟨by show (0:Rat) < 1; decide +kernel, 0, by show (0:Rat) = 0 * 1; decide +kernel, ⟨by decide +kernel, by decide +kernel⟩, ?_⟩
    show Ab (T 0 - 0) 0
    exact ⟨by decide +kernel, by decide +kernel⟩
  | succ n ih =>
    intro hn h
    obtain ⟨x0, u, hu, hub, hue⟩ := ih (by omega) (fun j hj => h j (by omega))
    obtain ⟨w0, hw, hwb⟩ := h n (by omega)
    obtain ⟨c1, c2, c3, c4⟩ := bn_ok n (by omega)
    obtain ⟨w, hwd⟩ : ∃ w, w = (Z' - r n) * conj (Z - r n) := ⟨_, rfl⟩
    obtain ⟨X, hX⟩ : ∃ X, X = Xp r Z Z' n := ⟨_, rfl⟩
    rw [← hwd] at w0 hw
    rw [← hX] at x0 hu
    have hp := hub.mul hwb
    have hs0 : 0 < 1 - u * t n := by unfold Ab at hp; grind
    obtain ⟨s, hs⟩ : ∃ s : Rat, s * (1 - u * t n) = 1 := ⟨1 / (1 - u * t n), div_mul_self (by grind)⟩
    have hsum := hub.add hwb
    have hadd := T_add (a := u) (b := t n) rfl rfl hs rfl hsum hp c3
    have hub' : Ab ((u + t n) * s) (bn (n + 1)) := by
      have e : (u + t n) * s * (1 - u * t n) = u + t n := by grind
      have k : bn (n + 1) * (1 - bn n * bj n) ≤ bn (n + 1) * (1 - u * t n) := Rat.mul_le_mul_of_nonneg_left (by unfold Ab at hp; grind) c4
      constructor
      · refine le_of_mul hs0 ?_
        rw [e]
        have := hsum.1
        grind
      · refine le_of_mul hs0 ?_
        rw [e]
        have := hsum.2
        grind
    have e1 : (w * X).x = w.x * X.x * (1 - u * t n) := by rw [mul_x, hw, hu]; grind
    have e2 : (w * X).y = w.x * X.x * (u + t n) := by rw [mul_y, hw, hu]; grind
    have eX : Xp r Z Z' (n + 1) = w * X := by rw [hwd, hX]; rfl
    have hwx := Rat.mul_pos w0 x0
    rw [eX]
    refine ⟨by rw [e1]; exact Rat.mul_pos hwx hs0, (u + t n) * s, ?_, hub', ?_⟩
    · rw [e1, e2]
      have : (u + t n) * s * (w.x * X.x * (1 - u * t n)) = w.x * X.x * (u + t n) * (s * (1 - u * t n)) := by grind
      rw [this, hs]; grind
    · show Ab (T ((u + t n) * s) - (sumR (fun j => T (t j)) n + T (t n))) _
      have e3 : T ((u + t n) * s) - (sumR (fun j => T (t j)) n + T (t n)) = (T u - sumR (fun j => T (t j)) n) + (T ((u + t n) * s) - T u - T (t n)) := by grind
      rw [e3]
      exact (hue.add hadd).mono c1
end Go.Proofs.Ytlhdgbiaiacpfaa
