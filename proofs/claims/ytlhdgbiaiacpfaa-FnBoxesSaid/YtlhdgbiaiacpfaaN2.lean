/- Quotients and square roots of words, as numbers. Plain: no condition. -/
import Derived.Test.YtlhdgbiaiacpfaaN
namespace Go.Proofs.Ytlhdgbiaiacpfaa.Num
open Ieee

/-- The absolute value is at most e. -/
def Ab (x e : Rat) : Prop := -e ≤ x ∧ x ≤ e

theorem Ab.nn {x e : Rat} (h : Ab x e) : 0 ≤ e := by unfold Ab at h; grind
theorem Ab.mono {x e e' : Rat} (h : Ab x e) (he : e ≤ e') : Ab x e' := by unfold Ab at *; grind
theorem Ab.add {x y a b : Rat} (h : Ab x a) (k : Ab y b) : Ab (x + y) (a + b) := by unfold Ab at *; grind
theorem Ab.sub {x y a b : Rat} (h : Ab x a) (k : Ab y b) : Ab (x - y) (a + b) := by unfold Ab at *; grind
theorem Ab.neg {x a : Rat} (h : Ab x a) : Ab (-x) a := by unfold Ab at *; grind
theorem Ab.self {x : Rat} (h : 0 ≤ x) : Ab x x := by unfold Ab; grind
theorem Ab.zero {e : Rat} (h : 0 ≤ e) : Ab 0 e := by unfold Ab; grind
theorem mul_mono {a b c d : Rat} (ha : 0 ≤ a) (hc : 0 ≤ c) (h : a ≤ b) (k : c ≤ d) : a * c ≤ b * d := by
  have h1 := Rat.mul_le_mul_of_nonneg_right h hc
  have h2 := Rat.mul_le_mul_of_nonneg_left k (show 0 ≤ b by grind)
  grind
theorem Ab.mul {x y a b : Rat} (h : Ab x a) (k : Ab y b) : Ab (x * y) (a * b) := by
  have ha := h.nn
  have hb := k.nn
  unfold Ab at *
  rcases Rat.le_total (a := 0) (b := x) with hx | hx <;> rcases Rat.le_total (a := 0) (b := y) with hy | hy
  · have h1 := mul_mono hx hy h.2 k.2
    have h2 := Rat.mul_nonneg hx hy
    have h3 := Rat.mul_nonneg ha hb
    grind
  · have h1 := mul_mono hx (show 0 ≤ -y by grind) h.2 (show -y ≤ b by grind)
    have h2 := Rat.mul_nonneg hx (show 0 ≤ -y by grind)
    have h3 := Rat.mul_nonneg ha hb
    grind
  · have h1 := mul_mono (show 0 ≤ -x by grind) hy (show -x ≤ a by grind) k.2
    have h2 := Rat.mul_nonneg (show 0 ≤ -x by grind) hy
    have h3 := Rat.mul_nonneg ha hb
    grind
  · have h1 := mul_mono (show 0 ≤ -x by grind) (show 0 ≤ -y by grind) (show -x ≤ a by grind) (show -y ≤ b by grind)
    have h2 := Rat.mul_nonneg (show 0 ≤ -x by grind) (show 0 ≤ -y by grind)
    have h3 := Rat.mul_nonneg ha hb
    grind
theorem sq_nn (x : Rat) : 0 ≤ x * x := by
  rcases Rat.le_total (a := 0) (b := x) with hx | hx
  · exact Rat.mul_nonneg hx hx
  · have := Rat.mul_nonneg (show 0 ≤ -x by grind) (show 0 ≤ -x by grind)
    grind
/-- Of the squares to the numbers. -/
theorem le_of_sq {x y : Rat} (hy : 0 ≤ y) (h : x * x ≤ y * y) : x ≤ y := by
  rcases Rat.le_total (a := x) (b := y) with hx | hx
  · exact hx
  · have h1 := mul_mono hy hy hx hx
    by_cases e : x = y
    · grind
    · have hlt : 0 < x - y := by grind
      have h2 : 0 < x + y := by grind
      have h3 := Rat.mul_pos hlt h2
      grind
theorem ab_of_sq {x y : Rat} (hy : 0 ≤ y) (h : x * x ≤ y * y) : Ab x y := by
  refine ⟨?_, le_of_sq hy h⟩
  have := le_of_sq (x := -x) hy (by grind)
  grind
theorem sq_le_of_ab {x y : Rat} (h : Ab x y) : x * x ≤ y * y := by
  have := h.mul h
  exact this.2
theorem div_mul_self {x y : Rat} (h : y ≠ 0) : x / y * y = x := by grind

/-- Order. -/
theorem order_R {f : Format} {a b : Nat} {x y : Rat} (hx : R f a x) (hy : R f b y) :
    (x < y → f.order a b = some .lt) ∧ (x = y → f.order a b = some .eq) ∧ (y < x → f.order a b = some .gt) := by
  obtain ⟨s, m, i, hra, hva⟩ := hx
  obtain ⟨t, n, j, hrb, hvb⟩ := hy
  have e1 := signed_val s m i (min i j) (by omega)
  have e2 := signed_val t n j (min i j) (by omega)
  rw [hva] at e1
  rw [hvb] at e2
  have p : (0:Rat) < (2:Rat)^(min i j) := Rat.zpow_pos (by decide)
  unfold Format.order
  rw [hra, hrb]
  simp only [Datum.order, Option.some.injEq]
  generalize signed s m (i - min i j).toNat = A at *
  generalize signed t n (j - min i j).toNat = B at *
  generalize (2:Rat)^(min i j) = g at *
  subst e1
  subst e2
  refine ⟨fun h => ?_, fun h => ?_, fun h => ?_⟩
  · rw [Int.compare_eq_lt]
    rcases Int.lt_or_le A B with k | k
    · exact k
    · have : ((B:Int):Rat) ≤ ((A:Int):Rat) := by exact_mod_cast k
      have := Rat.mul_le_mul_of_nonneg_right this (Rat.le_of_lt p)
      grind
  · rw [Int.compare_eq_eq]
    have : ((A:Rat) - B) * g = 0 := by grind
    have h2 : (A:Rat) = B := by grind
    exact_mod_cast h2
  · rw [Int.compare_eq_gt]
    rcases Int.lt_or_le B A with k | k
    · exact k
    · have : ((A:Int):Rat) ≤ ((B:Int):Rat) := by exact_mod_cast k
      have := Rat.mul_le_mul_of_nonneg_right this (Rat.le_of_lt p)
      grind
/-! Quotients. -/
theorem quotient_val (d : Nat) (s t : Bool) (m n : Nat) (i j : Int) (hn : n ≠ 0) :
    ∃ s' m' p' δ, (Datum.number s m i).quotient d (.number t n j) = some (.number s' m' p') ∧ vD (.number s' m' p') * vD (.number t n j) = vD (.number s m i) * (1 + δ) ∧ Ab (δ * (2:Rat)^(d:Int)) 1 := by
  by_cases hm : m = 0
  · subst hm
    refine ⟨_, _, _, 0, by simp only [Datum.quotient, hn, if_false]; rfl, ?_, by unfold Ab; grind⟩
    simp [vD]
  · obtain ⟨more, hmore⟩ : ∃ more, more = d + n.log2 - m.log2 := ⟨_, rfl⟩
    have hl : 2 ^ m.log2 ≤ m := Nat.log2_self_le hm
    have hl2 : n < 2 ^ (n.log2 + 1) := Nat.lt_log2_self
    have hD : 2 ^ d * n ≤ 2 * (m * 2 ^ more) := by
      have h1 : 2 ^ (d + n.log2) ≤ m * 2 ^ more := by
        refine Nat.le_trans ?_ (Nat.mul_le_mul_right _ hl)
        rw [← Nat.pow_add]
        exact Nat.pow_le_pow_right (by omega) (by omega)
      have h2 : 2 ^ d * n ≤ 2 ^ d * 2 ^ (n.log2 + 1) := Nat.mul_le_mul_left _ (by omega)
      rw [← Nat.pow_add, show d + (n.log2 + 1) = (d + n.log2) + 1 by omega, Nat.pow_succ] at h2
      omega
    have h1 := Nat.div_add_mod (m * 2 ^ more) n
    have h2 := Nat.mod_lt (m * 2 ^ more) (by omega : n > 0)
    have hpos : 0 < m * 2 ^ more := Nat.mul_pos (by omega) (Nat.two_pow_pos _)
    obtain ⟨K, hK⟩ : ∃ K, K = 2 * (m * 2 ^ more / n) + ((m * 2 ^ more) % n != 0).toNat := ⟨_, rfl⟩
    have hKn : K * n ≤ 2 * (m * 2 ^ more) + n ∧ 2 * (m * 2 ^ more) ≤ K * n + n := by
      rw [hK]
      generalize m * 2 ^ more / n = q at *
      generalize (m * 2 ^ more) % n = r at *
      rw [Nat.add_mul, show 2 * q * n = 2 * (n * q) by rw [Nat.mul_assoc, Nat.mul_comm q n]]
      generalize n * q = nq at *
      by_cases hr : r = 0
      · subst hr; simp; omega
      · rw [show (r != 0).toNat = 1 by simp [hr]]; omega
    clear h1 h2
    have c1 : ((K * n : Nat) : Rat) ≤ ((2 * (m * 2 ^ more) + n : Nat) : Rat) := by exact_mod_cast hKn.1
    have c2 : ((2 * (m * 2 ^ more) : Nat) : Rat) ≤ ((K * n + n : Nat) : Rat) := by exact_mod_cast hKn.2
    have c3 : ((2 ^ d * n : Nat) : Rat) ≤ ((2 * (m * 2 ^ more) : Nat) : Rat) := by exact_mod_cast hD
    have c4 : (0 : Rat) < ((m * 2 ^ more : Nat) : Rat) := by exact_mod_cast hpos
    have hd0 : (0:Rat) < (2:Rat)^(d:Int) := Rat.zpow_pos (by decide)
    obtain ⟨δ, hδ⟩ : ∃ δ : Rat, δ * (2 * ((m * 2 ^ more : Nat) : Rat)) = ((K * n : Nat) : Rat) - 2 * ((m * 2 ^ more : Nat) : Rat) :=
      ⟨(((K * n : Nat) : Rat) - 2 * ((m * 2 ^ more : Nat) : Rat)) / (2 * ((m * 2 ^ more : Nat) : Rat)), by grind⟩
    refine ⟨s ^^ t, K, i - j - more - 1, δ, ?_, ?_, ?_⟩
    · subst hmore; rw [hK]
      rw [← Nat.shiftLeft_eq]; unfold Datum.quotient; simp only [hn, if_false]
    · clear hK
      have e1 : (2:Rat)^i = (2:Rat)^(more:Int) * 2 * (2:Rat)^(i - more - 1) := by
        rw [show (2:Rat)^(more:Int) * 2 = (2:Rat)^((more:Int) + 1) by rw [Rat.zpow_add (by decide)]; rfl, ← Rat.zpow_add (by decide)]; congr 1; omega
      have e2 : (2:Rat)^(i - j - more - 1) * (2:Rat)^j = (2:Rat)^(i - more - 1) := by rw [← Rat.zpow_add (by decide)]; congr 1; omega
      simp only [Rat.natCast_mul, pow_cast] at hδ
      simp only [vD]
      rw [e1, ← e2]
      generalize (2:Rat)^(i - j - more - 1) = P at *
      generalize (2:Rat)^j = J at *
      generalize (2:Rat)^(more:Int) = M at *
      cases s <;> cases t <;> simp <;> grind
    · clear hK
      simp only [Rat.natCast_mul, Rat.natCast_add, pow_cast] at c1 c2 c3 c4 hδ
      have e2 : ((2:Nat):Rat) = 2 := rfl
      simp only [e2] at c1 c2 c3 hδ
      generalize (m:Rat) * (2:Rat)^(more:Int) = D at *
      generalize (2:Rat)^(d:Int) = G at *
      generalize (K:Rat) * (n:Rat) = KN at *
      generalize (n:Rat) = N at *
      have hD0 : (0:Rat) < 2 * D := by grind
      have u1 : δ * (2 * D) ≤ N := by grind
      have u2 : -N ≤ δ * (2 * D) := by grind
      have v1 := Rat.mul_le_mul_of_nonneg_right u1 (Rat.le_of_lt hd0)
      have v2 := Rat.mul_le_mul_of_nonneg_right u2 (Rat.le_of_lt hd0)
      constructor
      · rcases Rat.le_total (a := -1) (b := δ * G) with k | k
        · exact k
        · have := Rat.mul_le_mul_of_nonneg_right k (Rat.le_of_lt hD0)
          by_cases e : -1 = δ * G
          · grind
          · have hlt : 0 < -1 - δ * G := by grind
            have := Rat.mul_pos hlt hD0
            grind
      · rcases Rat.le_total (a := δ * G) (b := 1) with k | k
        · exact k
        · by_cases e : δ * G = 1
          · grind
          · have hlt : 0 < δ * G - 1 := by grind
            have := Rat.mul_pos hlt hD0
            grind
theorem read_nz {f : Format} {b : Nat} {t : Bool} {n : Nat} {j : Int} {y : Rat} (_ : f.read b = .number t n j) (h : vD (.number t n j) = y) (hy : y ≠ 0) : n ≠ 0 := by
  intro e
  subst e
  apply hy
  rw [← h]
  simp [vD]
theorem div_R {f : Format} {E : Int} (hE : Fits f E) {a b : Nat} {x y D' : Rat} (hx : R f a x) (hy : R f b y) (hy0 : y ≠ 0)
    (hD : ∀ D δ : Rat, D * y = x * (1 + δ) → Ab (δ * (2:Rat)^((f.fractionBits + 2 : Nat):Int)) 1 → Ab D D') (h1 : D' < (2:Rat)^(E + f.fractionBits)) :
    ∃ w v D δ, f.div a b = some w ∧ R f w v ∧ Near f D v ∧ D * y = x * (1 + δ) ∧ Ab (δ * (2:Rat)^((f.fractionBits + 2 : Nat):Int)) 1 := by
  obtain ⟨s, m, i, hra, hva⟩ := hx
  obtain ⟨t, n, j, hrb, hvb⟩ := hy
  obtain ⟨s', m', p', δ, hs, hv, hd⟩ := quotient_val (f.fractionBits + 2) s t m n i j (read_nz hrb hvb hy0)
  rw [hva, hvb] at hv
  have hb := hD _ _ hv hd
  obtain ⟨v, hR, hN⟩ := write_near f hE.hf s' m' p' E hE.hE hE.hov (mag_lt (s := s') (by unfold Ab at hb; grind) (by unfold Ab at hb; grind))
  refine ⟨_, v, _, δ, ?_, hR, hN, hv, hd⟩
  unfold Format.div
  rw [hra, hrb, hs]
  rfl

/-! Square roots. -/
theorem rootFrom_spec (n : Nat) : ∀ (todo root : Nat), root * root ≤ n → n < (root + 2 ^ todo) * (root + 2 ^ todo) →
    Datum.rootFrom n todo root * Datum.rootFrom n todo root ≤ n ∧ n < (Datum.rootFrom n todo root + 1) * (Datum.rootFrom n todo root + 1) := by
  intro todo
  induction todo with
  | zero => intro root h1 h2; simpa [Datum.rootFrom] using ⟨h1, h2⟩
  | succ k ih =>
    intro root h1 h2
    unfold Datum.rootFrom
    simp only [Nat.one_shiftLeft]
    have e : root + 2 ^ (k + 1) = root + 2 ^ k + 2 ^ k := by rw [Nat.pow_succ]; omega
    rw [e] at h2
    by_cases hc : (root + 2 ^ k) * (root + 2 ^ k) ≤ n
    · rw [if_pos hc]; exact ih _ hc h2
    · rw [if_neg hc]; exact ih _ h1 (by omega)
theorem root_val (d : Nat) (m : Nat) (i : Int) (hm : m ≠ 0) :
    ∃ m' p' δ, (Datum.number false m i).root d = some (.number false m' p') ∧ vD (.number false m' p') * vD (.number false m' p') = vD (.number false m i) * (1 + δ) ∧ Ab (δ * (2:Rat)^(d:Int)) 1 := by
  obtain ⟨mo, hmo⟩ : ∃ mo, mo = 2 * d - m.log2 := ⟨_, rfl⟩
  obtain ⟨more, hmore⟩ : ∃ more, more = mo + ((i - mo) % 2).toNat := ⟨_, rfl⟩
  obtain ⟨e, he⟩ : ∃ e : Int, i - more = 2 * e := ⟨(i - more) / 2, by omega⟩
  have hl : 2 ^ m.log2 ≤ m := Nat.log2_self_le hm
  have hN0 : 2 ^ (2 * d) ≤ m * 2 ^ more := by
    refine Nat.le_trans ?_ (Nat.mul_le_mul_right _ hl)
    rw [← Nat.pow_add]
    exact Nat.pow_le_pow_right (by omega) (by omega)
  obtain ⟨N, hN⟩ : ∃ N, N = m * 2 ^ more := ⟨_, rfl⟩
  obtain ⟨wh, hwh⟩ : ∃ wh, wh = Datum.rootFrom N (N.log2 / 2 + 1) 0 := ⟨_, rfl⟩
  have hs := rootFrom_spec N (N.log2 / 2 + 1) 0 (by omega) (by
    have h1 : N < 2 ^ (N.log2 + 1) := Nat.lt_log2_self
    refine Nat.lt_of_lt_of_le h1 ?_
    rw [Nat.zero_add, ← Nat.pow_add]
    exact Nat.pow_le_pow_right (by omega) (by omega))
  rw [← hwh] at hs
  obtain ⟨K, hK⟩ : ∃ K, K = 2 * wh + (wh * wh != N).toNat := ⟨_, rfl⟩
  have hw1 : 2 ^ d ≤ wh := by
    rcases Nat.lt_or_ge wh (2 ^ d) with k | k
    · have h1 : (wh + 1) * (wh + 1) ≤ 2 ^ d * 2 ^ d := Nat.mul_le_mul (by omega) (by omega)
      rw [← Nat.pow_add, show d + d = 2 * d by omega] at h1
      omega
    · exact k
  have hKK : K * K ≤ 4 * N + 4 * wh ∧ 4 * N ≤ K * K + 4 * wh := by
    rw [hK]
    have e1 : (wh + 1) * (wh + 1) = wh * wh + 2 * wh + 1 := by rw [Nat.add_mul, Nat.mul_add]; omega
    rw [e1] at hs
    by_cases hq : wh * wh = N
    · have e2 : (2 * wh + (wh * wh != N).toNat) = 2 * wh := by simp [hq]
      rw [e2, show 2 * wh * (2 * wh) = 4 * (wh * wh) by rw [Nat.mul_mul_mul_comm]]
      omega
    · have e2 : (2 * wh + (wh * wh != N).toNat) = 2 * wh + 1 := by simp [hq]
      have e3 : (2 * wh + 1) * (2 * wh + 1) = 4 * (wh * wh) + 4 * wh + 1 := by rw [Nat.add_mul, Nat.mul_add, show 2 * wh * (2 * wh) = 4 * (wh * wh) by rw [Nat.mul_mul_mul_comm]]; omega
      rw [e2, e3]
      omega
  have hw2 : 2 ^ d * wh ≤ N := Nat.le_trans (Nat.mul_le_mul_right _ hw1) hs.1
  have hp : 0 < N := by have := Nat.two_pow_pos (2 * d); omega
  refine ⟨K, e - 1, (((K * K : Nat) : Rat) - 4 * (N : Rat)) / (4 * (N : Rat)), ?_, ?_, ?_⟩
  · have hN' : m <<< more = N := by rw [Nat.shiftLeft_eq, hN]
    simp only [Datum.root, hm, if_false, Bool.false_eq_true, ← hmo, ← hmore, hN', ← hwh, ← hK]
    rw [he, show 2 * e / 2 = e by omega]
  · have hN0 : (0:Rat) < (N:Rat) := by exact_mod_cast hp
    have e1 : (2:Rat)^i = (2:Rat)^(more:Int) * 4 * ((2:Rat)^(e-1) * (2:Rat)^(e-1)) := by
      rw [show (2:Rat)^(more:Int) * 4 = (2:Rat)^((more:Int) + 2) by rw [Rat.zpow_add (by decide)]; rfl, ← Rat.zpow_add (by decide), ← Rat.zpow_add (by decide)]; congr 1; omega
    have e2 : (N:Rat) = (m:Rat) * (2:Rat)^(more:Int) := by rw [hN, Rat.natCast_mul, pow_cast]
    simp only [vD, e1, Rat.natCast_mul]
    have e3 : (m:Rat) * ((2:Rat)^(more:Int) * 4 * ((2:Rat)^(e-1) * (2:Rat)^(e-1))) = 4 * (N:Rat) * ((2:Rat)^(e-1) * (2:Rat)^(e-1)) := by rw [e2]; grind
    generalize (2:Rat)^(e-1) = P at *
    have e4 : (4 * (N:Rat)) * (1 + ((K:Rat) * K - 4 * N) / (4 * N)) = (K:Rat) * K := by grind
    simp only [Bool.false_eq_true, if_false]
    rw [show (1:Rat) * (m:Rat) * ((2:Rat)^(more:Int) * 4 * (P * P)) = 4 * (N:Rat) * (P * P) by grind]
    grind
  · have c1 : ((K * K : Nat) : Rat) ≤ ((4 * N + 4 * wh : Nat) : Rat) := by exact_mod_cast hKK.1
    have c2 : ((4 * N : Nat) : Rat) ≤ ((K * K + 4 * wh : Nat) : Rat) := by exact_mod_cast hKK.2
    have c3 : ((2 ^ d * wh : Nat) : Rat) ≤ (N : Rat) := by exact_mod_cast hw2
    have hN0 : (0:Rat) < (N:Rat) := by exact_mod_cast hp
    simp only [Rat.natCast_mul, Rat.natCast_add, pow_cast] at c1 c2 c3 ⊢
    have e2 : ((4:Nat):Rat) = 4 := rfl
    simp only [e2] at c1 c2
    have hd0 : (0:Rat) < (2:Rat)^(d:Int) := Rat.zpow_pos (by decide)
    generalize (2:Rat)^(d:Int) = G at *
    generalize (K:Rat) * (K:Rat) = KK at *
    generalize (wh:Rat) = W at *
    generalize (N:Rat) = n at *
    have v1 := Rat.mul_le_mul_of_nonneg_right (show KK - 4 * n ≤ 4 * W by grind) (Rat.le_of_lt hd0)
    have v2 := Rat.mul_le_mul_of_nonneg_right (show -(4 * W) ≤ KK - 4 * n by grind) (Rat.le_of_lt hd0)
    have e5 : (KK - 4 * n) / (4 * n) * G = ((KK - 4 * n) * G) / (4 * n) := by grind
    rw [e5]
    generalize (KK - 4 * n) * G = X at *
    have hn4 : 0 < 4 * n := by grind
    have e6 : X / (4 * n) * (4 * n) = X := by grind
    generalize X / (4 * n) = Y at *
    constructor
    · rcases Rat.le_total (a := -1) (b := Y) with k | k
      · exact k
      · by_cases e : -1 = Y
        · grind
        · have hlt : 0 < -1 - Y := by grind
          have := Rat.mul_pos hlt hn4
          grind
    · rcases Rat.le_total (a := Y) (b := 1) with k | k
      · exact k
      · by_cases e : Y = 1
        · grind
        · have hlt : 0 < Y - 1 := by grind
          have := Rat.mul_pos hlt hn4
          grind
theorem sqrt_R {f : Format} {E : Int} (hE : Fits f E) {a : Nat} {x B : Rat} (hx : R f a x) (h0 : 0 ≤ x) (hB : x * 4 ≤ B * B) (hB0 : 0 ≤ B) (h1 : B < (2:Rat)^(E + f.fractionBits)) :
    ∃ w v D δ, f.sqrt a = some w ∧ R f w v ∧ Near f D v ∧ 0 ≤ D ∧ D * D = x * (1 + δ) ∧ Ab (δ * (2:Rat)^((f.fractionBits + 2 : Nat):Int)) 1 := by
  obtain ⟨s, m, i, hra, hva⟩ := hx
  by_cases hm : m = 0
  · subst hm
    have hx0 : x = 0 := by rw [← hva]; simp [vD]
    obtain ⟨v, hR, hN⟩ := write_near f hE.hf s 0 i E hE.hE hE.hov (by simp; grind)
    refine ⟨_, v, 0, 0, ?_, hR, ?_, by grind, by grind, by unfold Ab; grind⟩
    · unfold Format.sqrt; rw [hra]; rfl
    · simpa [vD] using hN
  · cases s
    · obtain ⟨m', p', δ, hs, hv, hd⟩ := root_val (f.fractionBits + 2) m i hm
      rw [hva] at hv
      have hD0 : 0 ≤ vD (.number false m' p') := by
        have h2 : (0:Rat) ≤ (m':Rat) := by exact_mod_cast Nat.zero_le _
        have h3 : (0:Rat) < (2:Rat)^p' := Rat.zpow_pos (by decide)
        have := Rat.mul_nonneg h2 (Rat.le_of_lt h3)
        simp only [vD, Bool.false_eq_true, if_false]; grind
      have hδ : δ ≤ 1 := by
        have h4 : (1:Rat) ≤ (2:Rat)^((f.fractionBits + 2 : Nat):Int) := by
          have := pw_mono (show (0:Int) ≤ ((f.fractionBits + 2 : Nat):Int) by omega)
          rwa [show (2:Rat)^(0:Int) = 1 from rfl] at this
        generalize (2:Rat)^((f.fractionBits + 2 : Nat):Int) = G at *
        unfold Ab at hd
        rcases Rat.le_total (a := δ) (b := 1) with k | k
        · exact k
        · have := mul_mono (show (0:Rat) ≤ 1 by grind) (show (0:Rat) ≤ 1 by grind) k h4
          by_cases e : δ = 1
          · grind
          · have hlt : 0 < δ - 1 := by grind
            have := Rat.mul_pos hlt (show 0 < G by grind)
            grind
      have hle : vD (.number false m' p') ≤ B := by
        refine le_of_sq hB0 ?_
        rw [hv]
        have := Rat.mul_le_mul_of_nonneg_left hδ h0
        grind
      obtain ⟨v, hR, hN⟩ := write_near f hE.hf false m' p' E hE.hE hE.hov (mag_lt (s := false) (by grind) (by grind))
      refine ⟨_, v, _, δ, ?_, hR, hN, hD0, hv, hd⟩
      unfold Format.sqrt
      rw [hra, hs]
      rfl
    · exfalso
      have h2 : (0:Rat) < (m:Rat) := by exact_mod_cast Nat.pos_of_ne_zero hm
      have h3 : (0:Rat) < (2:Rat)^i := Rat.zpow_pos (by decide)
      have := Rat.mul_pos h2 h3
      simp only [vD, if_true] at hva
      grind
end Go.Proofs.Ytlhdgbiaiacpfaa.Num
