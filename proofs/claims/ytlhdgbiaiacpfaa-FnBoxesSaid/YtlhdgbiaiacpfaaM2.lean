/- Quotients of values, their angles, and the sum of these. No condition but the sizes. -/
import Derived.Test.YtlhdgbiaiacpfaaM1
import Derived.Test.YtlhdgbiaiacpfaaB4
namespace Go.Proofs.Ytlhdgbiaiacpfaa
open Go.RowKit Num Ieee
open G

/-! Quotients of values, their angles, and the sum of these. No condition but the sizes. -/
def sumR (a : Nat → Rat) : Nat → Rat
  | 0 => 0
  | i + 1 => sumR a i + a i
theorem quot_any {u v : C} {X Y : G} (hu : RC u X) (hv : RC v Y) (x1 : 1/1000000 ≤ N X) (x2 : N X ≤ 10000000000000) (y1 : 1/1000000 ≤ N Y) (y2 : N Y ≤ 10000000000000) :
    ∃ q V, quotO u v = some q ∧ RC q V ∧ Le (V * Y - X) (1/1000000) X ∧ (V.x ≠ 0 ∨ V.y ≠ 0) := by
  obtain ⟨Q, hQ⟩ := gdiv X (Y := Y) (by grind)
  have hN : N Q * N Y = N X := by rw [← N_mul, hQ]
  have hY0 : 0 < N Y := by grind
  have hQ1 : 1/10000000000000000000 ≤ N Q := le_of_mul hY0 (by grind)
  have hQ2 : N Q ≤ 10000000000000000000 := le_of_mul hY0 (by grind)
  obtain ⟨B, hB, hB1⟩ : ∃ B, Bd Q B ∧ (B * B ≤ N Q ∧ N Q ≤ 2 * (B * B)) := by
    have sx := sq_nn Q.x
    have sy := sq_nn Q.y
    have aux : ∀ a b : Rat, b * b ≤ a * a → ∃ B, Ab a B ∧ Ab b B ∧ B * B = a * a := by
      intro a b h
      rcases Rat.le_total (a := 0) (b := a) with h0 | h0
      · exact ⟨a, Ab.self h0, ab_of_sq h0 h, rfl⟩
      · exact ⟨-a, by unfold Ab; grind, ab_of_sq (by grind) (by grind), by grind⟩
    rcases Rat.le_total (a := Q.x * Q.x) (b := Q.y * Q.y) with h | h
    · obtain ⟨B, b1, b2, b3⟩ := aux Q.y Q.x h
      exact ⟨B, ⟨b2, b1⟩, by unfold N; grind, by unfold N; grind⟩
    · obtain ⟨B, b1, b2, b3⟩ := aux Q.x Q.y h
      exact ⟨B, ⟨b1, b2⟩, by unfold N; grind, by unfold N; grind⟩
  have hB0 := hB.nn
  have hBl : 1/10000000000 ≤ B := le_of_sq hB0 (by grind)
  have hBh : B ≤ 10000000000 := le_of_sq (by decide +kernel) (by grind)
  have hBY : 1/10000000000 * (1/1000000) ≤ B * N Y := mul_mono (by decide +kernel) (by decide +kernel) hBl y1
  have hBY2 : B * N Y ≤ 10000000000 * 10000000000000 := mul_mono hB0 (by grind) hBh y2
  have t1 : tiny ≤ 1/10000000000 := by decide +kernel
  have t2 : tiny * tiny ≤ 1/10000000000 * (1/1000000) := by decide +kernel
  have t3 : 2 * (10000000000 * 10000000000000) ≤ huge := by decide +kernel
  obtain ⟨q, V, q1, q2, q3⟩ := quotO_R hu hv hQ hB (by grind) (by grind) (by grind) (by grind) (by grind) (by grind)
  have hsm : e24 ≤ 1/10000000 ∧ 0 ≤ e24 := by decide +kernel
  have hd : Bd (V - Q) (B * (4/10000000)) := q3.mono (Rat.mul_le_mul_of_nonneg_left (by grind) hB0)
  have hle : Le (V - Q) (1/1000000) Q := by
    refine ⟨by decide +kernel, ?_⟩
    have := N_bd hd
    grind
  refine ⟨q, V, q1, q2, ?_, ?_⟩
  · have := hle.mul (Le.self Y)
    rw [hQ, sub_mul, hQ] at this
    exact this.mono (by decide +kernel)
  · by_cases hx : V.x = 0
    · right
      intro hy
      have : N (V - Q) = N Q := by unfold N; simp only [sub_x, sub_y, hx, hy]; grind
      have h2 := hle.2
      rw [this] at h2
      grind
    · left; exact hx
structure TrnR (n : Nat) (v : Nat → C) (W : Nat → G) (s : Nat → Nat) (V : Nat → G) (α : Nat → Rat) (σ : Rat) : Prop where
  trn : Trn n v s
  r : R single (s n) σ
  sum : Ab (σ - sumR α n) (ri n * (1/100000))
  al : ∀ i, i < n → Ab (α i) (51/100)
  q : ∀ i, i < n → Le (V i * W i - W (nx n i)) (1/1000000) (W (nx n i))
  ang : ∀ i, i < n → ∀ t, 0 < (V i).x → (V i).y = t * (V i).x → Ab t (249/1000) → Ab (α i * tau - T t) (41/1000000)
theorem nx_lt {n i : Nat} (h : i < n) : nx n i < n := by unfold nx; split <;> omega
def addW (a : Nat → Nat) : Nat → Nat
  | 0 => 0
  | i + 1 => (add32 (addW a i) (a i)).getD 0
theorem trn_R {n : Nat} (hn : n ≤ 256) {v : Nat → C} {W : Nat → G} (hv : ∀ i, i < n → RC (v i) (W i)) (lo : ∀ i, i < n → 1/1000000 ≤ N (W i)) (hi : ∀ i, i < n → N (W i) ≤ 10000000000000) :
    ∃ s V α σ, TrnR n v W s V α σ := by
  have key : ∀ i, ∃ (q : C) (a : Nat) (V : G) (α : Rat), i < n → quotO (v (nx n i)) (v i) = some q ∧ FinC q ∧ AngleIs q a ∧ SAngleIs q a ∧ R single a α ∧ Ab α (51/100) ∧ Le (V * W i - W (nx n i)) (1/1000000) (W (nx n i)) ∧ (∀ t, 0 < V.x → V.y = t * V.x → Ab t (249/1000) → Ab (α * tau - T t) (41/1000000)) := by
    intro i
    by_cases h : i < n
    · have h2 := nx_lt h
      obtain ⟨q, V, q1, q2, q3, q4⟩ := quot_any (hv _ h2) (hv _ h) (lo _ h2) (hi _ h2) (lo _ h) (hi _ h)
      obtain ⟨a, α, a1, a2, a3, a4, a5⟩ := angle_any q2 q4
      exact ⟨q, a, V, α, fun _ => ⟨q1, q2.fin, a1, a2, a3, a4, q3, a5⟩⟩
    · exact ⟨(0, 0), 0, z0, 0, fun k => absurd k h⟩
  obtain ⟨q, hq⟩ : ∃ q : Nat → C, ∀ i, ∃ (a : Nat) (V : G) (α : Rat), i < n → quotO (v (nx n i)) (v i) = some (q i) ∧ FinC (q i) ∧ AngleIs (q i) a ∧ SAngleIs (q i) a ∧ R single a α ∧ Ab α (51/100) ∧ Le (V * W i - W (nx n i)) (1/1000000) (W (nx n i)) ∧ (∀ t, 0 < V.x → V.y = t * V.x → Ab t (249/1000) → Ab (α * tau - T t) (41/1000000)) :=
    ⟨fun i => (key i).choose, fun i => (key i).choose_spec⟩
  obtain ⟨a, ha⟩ : ∃ a : Nat → Nat, ∀ i, ∃ (V : G) (α : Rat), i < n → quotO (v (nx n i)) (v i) = some (q i) ∧ FinC (q i) ∧ AngleIs (q i) (a i) ∧ SAngleIs (q i) (a i) ∧ R single (a i) α ∧ Ab α (51/100) ∧ Le (V * W i - W (nx n i)) (1/1000000) (W (nx n i)) ∧ (∀ t, 0 < V.x → V.y = t * V.x → Ab t (249/1000) → Ab (α * tau - T t) (41/1000000)) :=
    ⟨fun i => (hq i).choose, fun i => (hq i).choose_spec⟩
  obtain ⟨V, hV⟩ : ∃ V : Nat → G, ∀ i, ∃ (α : Rat), i < n → quotO (v (nx n i)) (v i) = some (q i) ∧ FinC (q i) ∧ AngleIs (q i) (a i) ∧ SAngleIs (q i) (a i) ∧ R single (a i) α ∧ Ab α (51/100) ∧ Le (V i * W i - W (nx n i)) (1/1000000) (W (nx n i)) ∧ (∀ t, 0 < (V i).x → (V i).y = t * (V i).x → Ab t (249/1000) → Ab (α * tau - T t) (41/1000000)) :=
    ⟨fun i => (ha i).choose, fun i => (ha i).choose_spec⟩
  obtain ⟨α, hα⟩ : ∃ α : Nat → Rat, ∀ i, i < n → quotO (v (nx n i)) (v i) = some (q i) ∧ FinC (q i) ∧ AngleIs (q i) (a i) ∧ SAngleIs (q i) (a i) ∧ R single (a i) (α i) ∧ Ab (α i) (51/100) ∧ Le (V i * W i - W (nx n i)) (1/1000000) (W (nx n i)) ∧ (∀ t, 0 < (V i).x → (V i).y = t * (V i).x → Ab t (249/1000) → Ab (α i * tau - T t) (41/1000000)) :=
    ⟨fun i => (hV i).choose, fun i => (hV i).choose_spec⟩
  clear key hq ha hV
  have hsum : ∀ i, i ≤ n → Ab (sumR α i) (ri i * (51/100)) := by
    intro i
    induction i with
    | zero => intro _; exact Ab.zero (by unfold ri; decide +kernel)
    | succ i ih =>
      intro h
      have h1 := ih (by omega)
      have h2 := (hα i (by omega)).2.2.2.2.2.1
      have := h1.add h2
      rw [ri_succ]
      exact this.mono (by grind)
  have hri : ∀ i : Nat, i ≤ 256 → ri i ≤ 256 := by
    intro i h
    unfold ri
    exact_mod_cast h
  have hs : ∀ i, i ≤ n → ∃ σ, R single (addW a i) σ ∧ Ab (σ - sumR α i) (ri i * (1/100000)) := by
    intro i
    induction i with
    | zero => intro _; exact ⟨0, R_00, by show Ab (0 - 0) _; unfold ri; exact ⟨by decide +kernel, by decide +kernel⟩⟩
    | succ i ih =>
      intro h
      obtain ⟨σ, s1, s2⟩ := ih (by omega)
      obtain ⟨_, _, _, _, r1, r2, _, _⟩ := hα i (by omega)
      have k1 := hsum (i + 1) h
      have k2 := hri (i + 1) (by omega)
      have k3 := hri i (by omega)
      have hb : Ab (σ + α i) 134 := by
        have e : σ + α i = (σ - sumR α i) + sumR α (i + 1) := by show _ = _ + (sumR α i + α i); grind
        rw [e]
        exact (s2.add k1).mono (by grind)
      have hh : (134:Rat) ≤ huge ∧ tiny ≤ 134 := by decide +kernel
      obtain ⟨w, x, w1, w2, w3⟩ := add_s s1 r1 hb hh.1
      have w4 := near_s w3 hb hh.2
      have e : addW a (i + 1) = w := by show (add32 (addW a i) (a i)).getD 0 = w; unfold add32; rw [show floatBits .add .f32 (addW a i) (a i) = some w from w1]; rfl
      refine ⟨x, by rw [e]; exact w2, ?_⟩
      have e2 : x - sumR α (i + 1) = (x - (σ + α i)) + (σ - sumR α i) := by show x - (sumR α i + α i) = _; grind
      rw [e2, ri_succ]
      have : 134 * e24 ≤ 1/100000 := by decide +kernel
      exact (w4.add s2).mono (by grind)
  obtain ⟨σ, s1, s2⟩ := hs n (Nat.le_refl _)
  refine ⟨addW a, V, α, σ, ⟨⟨rfl, fun i h => ?_, Fin_R s1⟩, s1, s2, fun i h => (hα i h).2.2.2.2.2.1, fun i h => (hα i h).2.2.2.2.2.2.1, fun i h => (hα i h).2.2.2.2.2.2.2⟩⟩
  obtain ⟨h1, h2, h3, h4, h5, _, _, _⟩ := hα i h
  refine ⟨q i, a i, h1, h2, h3, h4, ?_⟩
  obtain ⟨x, x1, _⟩ := hs i (by omega)
  obtain ⟨y, y1, y2⟩ := hs (i + 1) (by omega)
  have k1 := hsum (i + 1) h
  have k2 := hri (i + 1) (by omega)
  obtain ⟨z, z1, z2⟩ : ∃ z, R single (addW a i) z ∧ Ab (z + α i) 135 := by
    obtain ⟨σ, s1, s2⟩ := hs i (by omega)
    refine ⟨σ, s1, ?_⟩
    have e : σ + α i = (σ - sumR α i) + sumR α (i + 1) := by show _ = _ + (sumR α i + α i); grind
    rw [e]
    have k3 := hri i (by omega)
    exact (s2.add k1).mono (by grind)
  obtain ⟨w, x', w1, _, _⟩ := add_s z1 h5 z2 (by decide +kernel)
  show add32 (addW a i) (a i) = some ((add32 (addW a i) (a i)).getD 0)
  unfold add32
  rw [show floatBits .add .f32 (addW a i) (a i) = some w from w1]
  rfl

/-! The integer below a number. No condition but the sizes. -/
theorem big_drop {n drop : Nat} (h : n.log2 + 2 ≤ drop) : n < 2 ^ drop := by
  have h1 : n < 2 ^ (n.log2 + 1) := Nat.lt_log2_self
  exact Nat.lt_of_lt_of_le h1 (Nat.pow_le_pow_right (by omega) (by omega))
theorem cut_zero_eq (neg : Bool) (n drop : Nat) : Toward.zero.cut neg n drop = n / 2 ^ drop := by
  simp only [Toward.cut, Nat.shiftLeft_eq, Nat.one_mul, Bool.toNat_false, Nat.add_zero]
  rcases Nat.le_total drop (n.log2 + 2) with k | k
  · rw [Nat.min_eq_left k]
  · rw [Nat.min_eq_right k, Nat.div_eq_of_lt (big_drop (Nat.le_refl _)), Nat.div_eq_of_lt (big_drop k)]
theorem cut_down_eq (neg : Bool) (n drop : Nat) : Toward.down.cut neg n drop = n / 2 ^ drop + (neg && n % 2 ^ drop != 0).toNat := by
  simp only [Toward.cut, Nat.shiftLeft_eq, Nat.one_mul]
  rcases Nat.le_total drop (n.log2 + 2) with k | k
  · rw [Nat.min_eq_left k]
  · rw [Nat.min_eq_right k, Nat.div_eq_of_lt (big_drop (Nat.le_refl _)), Nat.div_eq_of_lt (big_drop k), Nat.mod_eq_of_lt (big_drop (Nat.le_refl _)), Nat.mod_eq_of_lt (big_drop k)]
theorem mag_val (m : Nat) (p : Int) : (m:Rat) * (2:Rat)^p * ((2 ^ (-p).toNat : Nat) : Rat) = ((m <<< p.toNat : Nat) : Rat) := by
  rw [Nat.shiftLeft_eq, Rat.natCast_mul, pow_cast, pow_cast]
  have e : (2:Rat)^p * (2:Rat)^(((-p).toNat : Nat) : Int) = (2:Rat)^((p.toNat : Nat) : Int) := by
    rw [← Rat.zpow_add (by decide)]; congr 1; omega
  rw [← e]; grind
theorem f64_range {d : Nat} (h : d ≤ 1000) : R double (floatOfInt .f64 (d : Int)) (d : Rat) := by
  have key : (List.range 1001).all (fun d => chk double (floatOfInt .f64 ((d : Nat) : Int)) ((d : Nat) : Rat)) = true := by decide +kernel
  rw [List.all_eq_true] at key
  exact chk_R (key d (by simp; omega))
theorem to_int {f : Nat} {n : Int} (h : R double f (n : Rat)) (hn : -1000 ≤ n ∧ n ≤ 1000) : floatToIntVal .f64 f .i64 = some n := by
  obtain ⟨s, m, p, h1, h2⟩ := h
  unfold floatToIntVal
  rw [show FloatKind.f64.decode f = .number s m p from h1]
  unfold Datum.toInt Datum.integral
  simp only []
  rw [cut_zero_eq]
  have hv := mag_val m p
  have key : ∀ k : Nat, (m:Rat) * (2:Rat)^p = (k:Rat) → (m <<< p.toNat) / 2 ^ (-p).toNat = k := by
    intro k hk
    rw [hk, ← Rat.natCast_mul] at hv
    have hv' : k * 2 ^ (-p).toNat = m <<< p.toNat := by exact_mod_cast hv
    rw [← hv', Nat.mul_div_cancel _ (Nat.two_pow_pos _)]
  have hm0 : (0:Rat) ≤ (m:Rat) * (2:Rat)^p := Rat.mul_nonneg (by exact_mod_cast Nat.zero_le _) (Rat.le_of_lt (Rat.zpow_pos (by decide)))
  have e1 : IntKind.i64.min = -9223372036854775808 := rfl
  have e2 : IntKind.i64.max = 9223372036854775807 := rfl
  cases s
  · have h3 : (m:Rat) * (2:Rat)^p = ((n.toNat : Nat) : Rat) := by
      simp only [vD] at h2
      simp at h2
      rw [h2] at hm0 ⊢
      have h0 : 0 ≤ n := by exact_mod_cast hm0
      have : ((n.toNat : Int) : Rat) = (n : Rat) := by rw [Int.toNat_of_nonneg h0]
      rw [← this]; push_cast; rfl
    have h0 : 0 ≤ n := by
      simp only [vD] at h2
      simp at h2
      rw [h2] at hm0
      exact_mod_cast hm0
    rw [key _ h3]
    have e : signed false n.toNat 0 = n := by simp [signed]; omega
    rw [e]
    simp only [e1, e2]
    rw [if_pos (by omega)]
  · have h4 : (m:Rat) * (2:Rat)^p = -(n:Rat) := by
      simp only [vD] at h2
      simp at h2
      grind
    have h0 : n ≤ 0 := by
      rw [h4] at hm0
      have : (n:Rat) ≤ 0 := by grind
      exact_mod_cast this
    have h3 : (m:Rat) * (2:Rat)^p = (((-n).toNat : Nat) : Rat) := by
      rw [h4]
      have : (((-n).toNat : Int) : Rat) = ((-n : Int) : Rat) := by rw [Int.toNat_of_nonneg (by omega)]
      rw [← Rat.intCast_neg, ← this]; push_cast; rfl
    rw [key _ h3]
    have e : signed true (-n).toNat 0 = n := by simp [signed]; omega
    rw [e]
    simp only [e1, e2]
    rw [if_pos (by omega)]
/-- The integer below. -/
theorem floor_R {W : Nat} {y : Rat} (h : R double W y) (hb : Ab y 500) : ∃ (f : Nat) (n : Int), floor64 W = some f ∧ R double f (n : Rat) ∧ (n : Rat) ≤ y ∧ y < (n : Rat) + 1 := by
  obtain ⟨s, m, p, h1, h2⟩ := h
  have hv := mag_val m p
  obtain ⟨k, hk⟩ : ∃ k, k = Toward.down.cut s (m <<< p.toNat) (-p).toNat := ⟨_, rfl⟩
  have hfl : floor64 W = some (double.write (.number s k 0)) := by
    unfold floor64
    rw [show FloatKind.f64.decode W = .number s m p from h1, hk]
    rfl
  obtain ⟨A, hA⟩ : ∃ A, A = (m:Rat) * (2:Rat)^p := ⟨_, rfl⟩
  have hA0 : 0 ≤ A := by rw [hA]; exact Rat.mul_nonneg (by exact_mod_cast Nat.zero_le _) (Rat.le_of_lt (Rat.zpow_pos (by decide)))
  obtain ⟨g, hg⟩ : ∃ g, g = 2 ^ (-p).toNat := ⟨_, rfl⟩
  obtain ⟨N0, hN0⟩ : ∃ N0, N0 = m <<< p.toNat := ⟨_, rfl⟩
  rw [← hA, ← hg, ← hN0] at hv
  rw [cut_down_eq, ← hg, ← hN0] at hk
  have hg0 : 0 < g := by rw [hg]; exact Nat.two_pow_pos _
  have hgR : (0:Rat) < (g:Rat) := by exact_mod_cast hg0
  have hdm := Nat.div_add_mod N0 g
  have hml := Nat.mod_lt N0 hg0
  have hy : y = if s then -A else A := by rw [← h2, hA]; cases s <;> simp [vD] <;> grind
  -- the bounds of k
  have hkA : (s = false → (k:Rat) ≤ A ∧ A < (k:Rat) + 1) ∧ (s = true → (k:Rat) < A + 1 ∧ A ≤ (k:Rat)) := by
    constructor
    · intro hs
      subst hs
      simp only [Bool.false_and, Bool.toNat_false, Nat.add_zero] at hk
      subst hk
      constructor
      · refine le_of_mul hgR ?_
        rw [hv]
        have : N0 / g * g ≤ N0 := Nat.div_mul_le_self _ _
        exact_mod_cast this
      · have : N0 < (N0 / g + 1) * g := by
          have := Nat.lt_mul_div_succ N0 hg0
          rw [Nat.mul_comm]; exact this
        have h3 : (N0:Rat) < ((N0 / g : Nat) : Rat) * (g:Rat) + (g:Rat) := by
          have h4 : ((N0 : Nat) : Rat) < (((N0 / g + 1) * g : Nat) : Rat) := by exact_mod_cast this
          rw [Rat.natCast_mul] at h4
          push_cast at h4
          grind
        rw [← hv] at h3
        by_cases h5 : A < ((N0 / g : Nat) : Rat) + 1
        · exact h5
        · exfalso
          have h6 : ((N0 / g : Nat) : Rat) + 1 ≤ A := by grind
          have := Rat.mul_le_mul_of_nonneg_right h6 (Rat.le_of_lt hgR)
          grind
    · intro hs
      subst hs
      simp only [Bool.true_and] at hk
      by_cases hr : N0 % g = 0
      · have hk' : k = N0 / g := by rw [hk, hr]; simp
        have e : k * g = N0 := by rw [hk']; have := hdm; rw [hr, Nat.add_zero, Nat.mul_comm] at this; exact this
        have e2 : (k:Rat) * (g:Rat) = (N0:Rat) := by rw [← Rat.natCast_mul, e]
        have e3 : A = (k:Rat) := by
          have : (A - (k:Rat)) * (g:Rat) = 0 := by grind
          have : A - (k:Rat) = 0 := by grind
          grind
        rw [e3]; grind
      · have hk' : k = N0 / g + 1 := by rw [hk]; simp [hr]
        have h3 : (N0 / g) * g < N0 := by rw [Nat.mul_comm]; omega
        have h4 : N0 ≤ k * g := by
          rw [hk', Nat.add_mul, Nat.one_mul, Nat.mul_comm (N0 / g) g]; omega
        have h5 : ((N0 / g : Nat) : Rat) * (g:Rat) < (N0:Rat) := by rw [← Rat.natCast_mul]; exact_mod_cast h3
        have h6 : (N0:Rat) ≤ (k:Rat) * (g:Rat) := by rw [← Rat.natCast_mul]; exact_mod_cast h4
        have h7 : (k:Rat) = ((N0 / g : Nat) : Rat) + 1 := by rw [hk']; push_cast; rfl
        refine ⟨?_, le_of_mul hgR (by grind)⟩
        by_cases h8 : (k:Rat) < A + 1
        · exact h8
        · exfalso
          have h9 : A ≤ ((N0 / g : Nat) : Rat) := by grind
          have := Rat.mul_le_mul_of_nonneg_right h9 (Rat.le_of_lt hgR)
          grind
  have hk5 : (k:Rat) ≤ 501 := by
    cases s
    · have := hkA.1 rfl; simp at hy; unfold Ab at hb; grind
    · have := hkA.2 rfl; simp at hy; unfold Ab at hb; grind
  obtain ⟨v, hR, hN⟩ := write_near double (by decide) s k 0 970 (by decide) (by decide +kernel) (by
    have : (501:Rat) < (2:Rat)^((970:Int) + (double.fractionBits : Int)) := by decide +kernel
    simp; grind)
  have hkn : k ≤ 501 := by exact_mod_cast hk5
  obtain ⟨n, hn⟩ : ∃ n : Int, n = if s then -(k:Int) else (k:Int) := ⟨_, rfl⟩
  have hvn : v = (n:Rat) := by
    have e : vD (.number s k 0) = (n:Rat) := by
      rw [hn]
      cases s
      · simp [vD, Rat.intCast_natCast]
      · simp [vD, Rat.intCast_natCast]; grind
    rw [e] at hN
    refine hN.exact_ n 0 (by simp) ?_ (by decide)
    have : (502:Nat) ≤ 2 ^ (double.fractionBits + 1) := by decide
    rw [hn]; cases s <;> simp <;> omega
  subst hvn
  refine ⟨_, n, hfl, hR, ?_⟩
  rw [hy, hn]
  have ek : (((k:Nat):Int):Rat) = (k:Rat) := Rat.intCast_natCast k
  cases s
  · have := hkA.1 rfl
    simp only [Bool.false_eq_true, if_false]
    rw [ek]; exact this
  · have := hkA.2 rfl
    simp only [if_true]
    rw [Rat.intCast_neg, ek]
    constructor <;> grind
theorem half32_R : R single 1056964608 (1/2) := chk_R (by decide +kernel)
theorem flo_R {s : Nat} {σ : Rat} (h : R single s σ) (hb : Ab σ 200) : ∃ (f : Nat) (n : Int), Flo s f n ∧ (n : Rat) ≤ σ + 1/2 + 1/10000 ∧ σ + 1/2 - 1/10000 < (n : Rat) + 1 := by
  have hb2 : Ab (σ + 1/2) 201 := by unfold Ab at *; grind
  obtain ⟨u, y, u1, u2, u3⟩ := add_s h half32_R hb2 (by decide +kernel)
  have u4 := near_s u3 hb2 (by decide +kernel)
  have u5 : Ab (y - (σ + 1/2)) (1/20000) := u4.mono (by decide +kernel)
  obtain ⟨W, w1, w2⟩ := wid_R u2
  obtain ⟨f, n, f1, f2, f3, f4⟩ := floor_R w2 (show Ab y 500 by unfold Ab at *; grind)
  have hn : -1000 ≤ n ∧ n ≤ 1000 := by
    have h1 : (n:Rat) ≤ ((1000:Int):Rat) := by
      have : ((1000:Int):Rat) = 1000 := rfl
      unfold Ab at *; grind
    have h2 : ((-1000:Int):Rat) ≤ (n:Rat) := by
      have : ((-1000:Int):Rat) = -1000 := rfl
      unfold Ab at *; grind
    exact ⟨Rat.intCast_le_intCast.1 h2, Rat.intCast_le_intCast.1 h1⟩
  refine ⟨f, n, ⟨⟨u, W, u1, w1, f1⟩, to_int f2 hn, ?_, fun d hd => ?_⟩, by unfold Ab at u5; grind, by unfold Ab at u5; grind⟩
  · have := order_lt f2 zero64_R
    rw [show FloatKind.f64.format.order f 0 = double.order f 0 from rfl, this]
    have e : ((n:Rat) < 0) = (n < 0) := by
      rw [show (0:Rat) = ((0:Int):Rat) from rfl]
      exact propext ⟨fun h => by exact_mod_cast h, fun h => by exact_mod_cast h⟩
    simp only [e]
  · have := order_gt f2 (f64_range hd)
    rw [show FloatKind.f64.format.order f (floatOfInt .f64 (d : Int)) = double.order f (floatOfInt .f64 (d : Int)) from rfl, this]
    have e : ((d:Rat) < (n:Rat)) = ((d:Int) < n) := by
      rw [← Rat.intCast_natCast d]
      exact propext ⟨fun h => by exact_mod_cast h, fun h => by exact_mod_cast h⟩
    simp only [e]
end Go.Proofs.Ytlhdgbiaiacpfaa
