/- Values of polynomials of words, nearly; slopes, exactly. -/
import Derived.Test.YtlhdgbiaiacpfaaN7
namespace Go.Proofs.Ytlhdgbiaiacpfaa
open Go.RowKit Num Ieee
open G
theorem RC.fin {z : C} {X : G} (h : RC z X) : FinC z := ⟨Fin_R h.1, Fin_R h.2⟩
theorem Rl.fin {c : List C} {f : Nat → G} (h : Rl c f) : AllFin c := fun k hk => (h k hk).fin
theorem rat_tri (x : Rat) : x < 0 ∨ x = 0 ∨ 0 < x := by
  rcases Rat.le_total (a := x) (b := 0) with h | h <;> by_cases e : x = 0 <;> grind
theorem isZ_false {z : C} {X : G} (h : RC z X) (hX : X.x ≠ 0 ∨ X.y ≠ 0) : isZ z = false := by
  unfold isZ
  rcases hX with e | e
  · have o := order_R h.1 R_00
    have : (FloatKind.f32.format.order z.1 0 == some .eq) = false := by
      rcases rat_tri X.x with k | k | k
      · rw [show FloatKind.f32.format.order z.1 0 = some .lt from o.1 k]; rfl
      · exact absurd k e
      · rw [show FloatKind.f32.format.order z.1 0 = some .gt from o.2.2 k]; rfl
    rw [this]; rfl
  · have o := order_R h.2 R_00
    have : (FloatKind.f32.format.order z.2 0 == some .eq) = false := by
      rcases rat_tri X.y with k | k | k
      · rw [show FloatKind.f32.format.order z.2 0 = some .lt from o.1 k]; rfl
      · exact absurd k e
      · rw [show FloatKind.f32.format.order z.2 0 = some .gt from o.2.2 k]; rfl
    rw [this, Bool.and_false]
theorem isZ_true {z : C} (h : RC z z0) : isZ z = true := by
  unfold isZ
  rw [show FloatKind.f32.format.order z.1 0 = some .eq from (order_R h.1 R_00).2.1 rfl, show FloatKind.f32.format.order z.2 0 = some .eq from (order_R h.2 R_00).2.1 rfl]
  rfl
theorem i32_vals : (List.range 17).all (fun k => chk single (floatOfInt .f32 ((k : Nat) : Int)) (ri k)) = true := by decide +kernel
theorem i32_R {k : Nat} (h : k < 17) : R single (floatOfInt .f32 (k : Int)) (ri k) := by
  have := i32_vals
  rw [List.all_eq_true] at this
  exact chk_R (this k (by simpa using h))

/-- The slope's terms, exactly. -/
theorem slO_R {xs : List C} {f : Nat → G} {m : Nat} {B : Rat} {t : Int} (hl : xs.length = m + 1) (hm : m ≤ 4) (h : Rl xs f) (hb : ∀ k, Bd (f k) B) (hB : B * 4 < (2:Rat)^(24 + t)) (hB2 : B * 4 ≤ huge) (ho : ∀ k, OnG t (f k)) (ht : -149 ≤ t) :
    ∀ j, j ≤ m → ∃ l, slO xs j = some l ∧ l.length = j ∧ Rl l (sl f) := by
  intro j
  induction j with
  | zero => intro _; exact ⟨[], rfl, rfl, fun k hk => by simp at hk⟩
  | succ j ih =>
    intro hj
    obtain ⟨l, h1, h2, h3⟩ := ih (by omega)
    have hk := i32_R (k := j + 1) (by omega)
    have hr0 : (0:Rat) ≤ ri (j + 1) := by unfold ri; exact_mod_cast Nat.zero_le _
    have hr4 : ri (j + 1) ≤ 4 := by
      have : ((j + 1 : Nat) : Rat) ≤ ((4 : Nat) : Rat) := by exact_mod_cast (by omega : j + 1 ≤ 4)
      exact this
    have b0 := (hb (j + 1)).nn
    have hbd : Bd (sc (ri (j + 1)) (f (j + 1))) (B * 4) := by
      have hr : Ab (ri (j + 1)) 4 := by unfold Ab; grind
      exact ⟨(hb (j + 1)).1.mul hr, (hb (j + 1)).2.mul hr⟩
    have hon : OnG t (sc (ri (j + 1)) (f (j + 1))) := by
      have hr : On 0 (ri (j + 1)) := by
        have := On.int ((j + 1 : Nat) : Int)
        have e : (((j + 1 : Nat) : Int) : Rat) = ri (j + 1) := by unfold ri; push_cast; rfl
        rwa [e] at this
      have h1 := (ho (j + 1)).1.mul hr
      have h2 := (ho (j + 1)).2.mul hr
      rw [Int.add_zero] at h1 h2
      exact ⟨h1, h2⟩
    obtain ⟨x, x1, x2⟩ := scaleO_on (h (j + 1) (by omega)) hk hbd hon ht hB hB2
    refine ⟨l ++ [x], ?_, by simp [h2], h3.snoc (by rw [h2]; exact x2)⟩
    simp only [slO, h1, Option.bind_some]
    rw [x1]
    rfl
theorem slopeO_R {xs : List C} {f : Nat → G} {m : Nat} {B : Rat} {t : Int} (hl : xs.length = m + 1) (hm0 : 1 ≤ m) (hm : m ≤ 4) (h : Rl xs f) (hb : ∀ k, Bd (f k) B) (hB : B * 4 < (2:Rat)^(24 + t)) (hB2 : B * 4 ≤ huge) (ho : ∀ k, OnG t (f k)) (ht : -149 ≤ t) :
    ∃ ys, slopeO xs = some ys ∧ ys.length = m ∧ Rl ys (sl f) := by
  obtain ⟨l, h1, h2, h3⟩ := slO_R hl hm h hb hB hB2 ho ht m (Nat.le_refl _)
  refine ⟨l, ?_, h2, h3⟩
  unfold slopeO
  rw [if_neg (by omega), show xs.length - 1 = m by omega]
  exact h1
theorem VP_of {xs : List C} {f : Nat → G} {m : Nat} (hl : xs.length = m + 1) (hm : m ≤ 16) (h : Rl xs f) (hlast : m = 0 ∨ (f m).x ≠ 0 ∨ (f m).y ≠ 0) : VP xs := by
  refine ⟨by omega, by omega, h.fin, ?_⟩
  rcases hlast with e | e
  · left; omega
  · right
    rw [show xs.length - 1 = m by omega]
    exact isZ_false (h m (by omega)) e

/-! Values, nearly. -/
/-- How long what is told by j steps is, at most; and by how much it is off. -/
def hb (b : Nat → Rat) (m : Nat) (ζ : Rat) : Nat → Rat
  | 0 => b m
  | j + 1 => hb b m ζ j * ζ + b (m - 1 - j)
def er (b : Nat → Rat) (m : Nat) (ζ : Rat) : Nat → Rat
  | 0 => 0
  | j + 1 => er b m ζ j * ζ + (hb b m ζ j + er b m ζ j) * ζ * (9 * e24) + b (m - 1 - j) * (2 * e24)
theorem hb_succ (b : Nat → Rat) (m : Nat) (ζ : Rat) (j : Nat) : hb b m ζ (j + 1) = hb b m ζ j * ζ + b (m - 1 - j) := rfl
theorem er_succ (b : Nat → Rat) (m : Nat) (ζ : Rat) (j : Nat) : er b m ζ (j + 1) = er b m ζ j * ζ + (hb b m ζ j + er b m ζ j) * ζ * (9 * e24) + b (m - 1 - j) * (2 * e24) := rfl
theorem Hz_le {f : Nat → G} {b : Nat → Rat} (m : Nat) {Z : G} {ζ : Rat} (hf : ∀ k, Le (f k) (b k) one_) (hZ : Le Z ζ one_) : ∀ j, Le (Hz f m Z j) (hb b m ζ j) one_ := by
  intro j
  induction j with
  | zero => exact hf m
  | succ j ih =>
    have := ih.mul hZ
    rw [mul_one] at this
    exact this.add (hf _)
theorem er_nn {b : Nat → Rat} (m : Nat) {ζ : Rat} (hb0 : ∀ k, 0 ≤ b k) (hζ : 0 ≤ ζ) (j : Nat) : 0 ≤ er b m ζ j ∧ 0 ≤ hb b m ζ j := by
  induction j with
  | zero => exact ⟨by unfold er; grind, hb0 m⟩
  | succ j ih =>
    have h1 := Rat.mul_nonneg ih.1 hζ
    have h2 := Rat.mul_nonneg ih.2 hζ
    have h3 := Rat.mul_nonneg (Rat.mul_nonneg (show 0 ≤ hb b m ζ j + er b m ζ j by grind) hζ) (show 0 ≤ 9 * e24 by decide +kernel)
    have h4 := Rat.mul_nonneg (hb0 (m - 1 - j)) (show 0 ≤ 2 * e24 by decide +kernel)
    have := hb0 (m - 1 - j)
    rw [er_succ, hb_succ]
    generalize er b m ζ j = E at *
    generalize hb b m ζ j = H at *
    generalize b (m - 1 - j) = bb at *
    grind
theorem horner_R {xs : List C} {f : Nat → G} {b : Nat → Rat} {m : Nat} {z : C} {Z : G} {ζ : Rat} (hl : xs.length = m + 1) (h : Rl xs f) (hz : RC z Z) (hZ : Le Z ζ one_) (hζ : 1 ≤ ζ) (hf : ∀ k, Le (f k) (b k) one_) (hbm : 1 ≤ b m)
    (hbig : ∀ j, j ≤ m → (hb b m ζ j + er b m ζ j) * ζ + b (m - 1 - j) ≤ 1000000000000) :
    ∀ j, j ≤ m → ∃ v W, Go.Proofs.Ytlhdgbiaiacpfaa.hz xs z j = some v ∧ RC v W ∧ Le (W - Hz f m Z j) (er b m ζ j) one_ := by
  have hb0 : ∀ k, 0 ≤ b k := fun k => (hf k).1
  have hhuge : (100000000000000:Rat) ≤ huge := by decide +kernel
  have hone : ∀ j, 1 ≤ hb b m ζ j := by
    intro j
    induction j with
    | zero => exact hbm
    | succ j ih =>
      have h1 := mul_mono (show (0:Rat) ≤ 1 by grind) (show (0:Rat) ≤ 1 by grind) ih hζ
      have := hb0 (m - 1 - j)
      rw [hb_succ]; grind
  intro j
  induction j with
  | zero =>
    intro _
    refine ⟨_, f m, rfl, by rw [show xs.length - 1 = m by omega]; exact h m (by omega), ?_⟩
    have e : f m - Hz f m Z 0 = z0 := by ext <;> simp [Hz, z0] <;> grind
    rw [e]
    exact Le.zero (by unfold er; grind)
  | succ j ih =>
    intro hj
    obtain ⟨v, W, h1, h2, h3⟩ := ih (by omega)
    obtain ⟨en, hn⟩ := er_nn m hb0 (show 0 ≤ ζ by grind) j
    have hW : Le W (hb b m ζ j + er b m ζ j) one_ := by
      have := (Hz_le m hf hZ j).add h3
      rwa [show Hz f m Z j + (W - Hz f m Z j) = W by ext <;> simp <;> grind] at this
    have hbg := hbig j (by omega)
    have hbk := hb0 (m - 1 - j)
    have h1j := hone j
    obtain ⟨A, hA⟩ : ∃ A, A = hb b m ζ j + er b m ζ j := ⟨_, rfl⟩
    rw [← hA] at hW hbg
    have hA1 : 1 ≤ A := by grind
    have hAz : 1 ≤ A * ζ := by
      have := mul_mono (show (0:Rat) ≤ 1 by grind) (show (0:Rat) ≤ 1 by grind) hA1 hζ
      grind
    have ht1 : tiny ≤ 1 := by decide +kernel
    obtain ⟨p, Pv, p1, p2, p3⟩ := mulO_R h2 hz hW.bd hZ.bd (by grind) (by grind)
    have hc := h (m - 1 - j) (by omega)
    have hWZ := hW.mul hZ
    rw [mul_one] at hWZ
    have hp3 := bd_le p3
    have hPv : Le Pv (A * ζ + A * ζ * (4 * e24) * (3 / 2)) one_ := by
      have := hWZ.add hp3
      rwa [show W * Z + (Pv - W * Z) = Pv by ext <;> simp <;> grind] at this
    have hsum := hPv.add (hf (m - 1 - j))
    obtain ⟨B', hB'⟩ : ∃ B', B' = A * ζ + A * ζ * (4 * e24) * (3 / 2) + b (m - 1 - j) := ⟨_, rfl⟩
    rw [← hB'] at hsum
    have he0 : 0 ≤ e24 := by decide +kernel
    have he1 : e24 ≤ 1 / 1000 := by decide +kernel
    have hAe : A * ζ * (4 * e24) * (3 / 2) ≤ A * ζ * (6/1000) := by
      have := Rat.mul_le_mul_of_nonneg_left (show 4 * e24 * (3/2) ≤ 6/1000 by grind) (show 0 ≤ A * ζ by grind)
      grind
    have hAe0 : 0 ≤ A * ζ * (4 * e24) * (3 / 2) := Rat.mul_nonneg (Rat.mul_nonneg (by grind) (by grind)) (by grind)
    obtain ⟨q, Q, q1, q2, q3⟩ := plusO_R p2 hc hsum.bd (by grind) (by grind)
    have hq3 := bd_le q3
    refine ⟨q, Q, ?_, q2, ?_⟩
    · simp only [Go.Proofs.Ytlhdgbiaiacpfaa.hz, h1, Option.bind_some, p1]
      rw [show xs.length - 2 - j = m - 1 - j by omega]
      exact q1
    · have h4 := h3.mul hZ
      rw [mul_one] at h4
      have h5 := (h4.add hp3).add hq3
      rw [show (W - Hz f m Z j) * Z + (Pv - W * Z) + (Q - (Pv + f (m - 1 - j))) = Q - Hz f m Z (j + 1) by
        show _ = Q - (Hz f m Z j * Z + f (m - 1 - j))
        ext <;> simp <;> grind] at h5
      refine h5.mono ?_
      have hAz0 : 0 ≤ A * ζ := by grind
      have k1 : B' * e24 * (3 / 2) ≤ A * ζ * (2 * e24) + b (m - 1 - j) * (2 * e24) := by
        have : B' ≤ A * ζ * (4/3) + b (m - 1 - j) * (4/3) := by grind
        have := Rat.mul_le_mul_of_nonneg_right this (show 0 ≤ e24 * (3/2) by grind)
        grind
      have k2 : A * ζ * (4 * e24) * (3 / 2) = A * ζ * (6 * e24) := by grind
      have k3 : 0 ≤ A * ζ * e24 := Rat.mul_nonneg hAz0 he0
      show _ ≤ er b m ζ j * ζ + (hb b m ζ j + er b m ζ j) * ζ * (9 * e24) + b (m - 1 - j) * (2 * e24)
      rw [← hA, k2]
      grind
def b1 (n : Nat) (k : Nat) : Rat := ri (k + 1) * bt n (k + 1)
def b2 (n : Nat) (k : Nat) : Rat := ri (k + 1) * b1 n (k + 1)
end Go.Proofs.Ytlhdgbiaiacpfaa
