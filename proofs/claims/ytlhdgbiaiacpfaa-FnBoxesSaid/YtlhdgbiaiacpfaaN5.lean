/- Numbers behind the words, on: lengths and quotients of complex numbers. -/
import Derived.Test.YtlhdgbiaiacpfaaN4
namespace Go.Proofs.Ytlhdgbiaiacpfaa
open Go.RowKit Num Ieee
open G
theorem N_nn (X : G) : 0 ≤ N X := by have := sq_nn X.x; have := sq_nn X.y; unfold N; grind
theorem N_x (X : G) : X.x * X.x ≤ N X := by have := sq_nn X.y; unfold N; grind
theorem N_y (X : G) : X.y * X.y ≤ N X := by have := sq_nn X.x; unfold N; grind
theorem N_bd {X : G} {B : Rat} (h : Bd X B) : N X ≤ 2 * (B * B) := by
  have h1 := sq_le_of_ab h.1
  have h2 := sq_le_of_ab h.2
  unfold N; grind
theorem bd_N {X : G} {B : Rat} (hB : 0 ≤ B) (h : N X ≤ B * B) : Bd X B :=
  ⟨ab_of_sq hB (Rat.le_trans (N_x X) h), ab_of_sq hB (Rat.le_trans (N_y X) h)⟩
theorem N_mul (X Y : G) : N (X * Y) = N X * N Y := by unfold N; simp only [mul_x, mul_y]; grind
theorem N_conj (X : G) : N (conj X) = N X := by unfold N; simp only [conj_x, conj_y]; grind
theorem N_zero {X : G} (h : N X = 0) : X = ⟨0, 0⟩ := by
  have h1 := sq_nn X.x
  have h2 := sq_nn X.y
  unfold N at h
  have e1 : X.x * X.x = 0 := by grind
  have e2 : X.y * X.y = 0 := by grind
  exact G.ext (by grind) (by grind)
/-- Nothing, or not too little. -/
theorem N_low {z : C} {X : G} (h : RC z X) (h0 : N X ≠ 0) : tiny * tiny * tiny * tiny ≤ N X := by
  have o : On (-149 + -149) (N X) := (h.on.1.mul h.on.1).add (h.on.2.mul h.on.2)
  obtain ⟨k, hk⟩ := o
  have hn := N_nn X
  have p : (0:Rat) < (2:Rat)^(-149 + -149 : Int) := Rat.zpow_pos (by decide)
  have hk1 : 1 ≤ k := by
    rcases Int.lt_or_le 0 k with q | q
    · omega
    · have h2 : ((k:Int):Rat) ≤ ((0:Int):Rat) := by exact_mod_cast q
      have h3 := Rat.mul_le_mul_of_nonneg_right h2 (Rat.le_of_lt p)
      rw [← hk] at h3
      exfalso
      apply h0
      have : ((0:Int):Rat) = 0 := rfl
      grind
  have h4 : ((1:Int):Rat) ≤ ((k:Int):Rat) := by exact_mod_cast hk1
  have h3 := Rat.mul_le_mul_of_nonneg_right h4 (Rat.le_of_lt p)
  rw [← hk] at h3
  have h5 : tiny * tiny * tiny * tiny ≤ ((1:Int):Rat) * (2:Rat)^(-149 + -149 : Int) := by decide +kernel
  grind
theorem near_nn_d {x v : Rat} (h : Near double x v) (h0 : 0 ≤ x) : 0 ≤ v := h.sgn.1 h0

theorem powerO_R {u : C} {X : G} (hu : RC u X) (h0 : N X ≠ 0) (h2 : N X ≤ huge) : ∃ p P, powerO u = some p ∧ R double p P ∧ 0 ≤ P ∧ Ab (P - N X) (N X * (5 * e53)) := by
  obtain ⟨a, a1, a2⟩ := wid_R hu.1
  obtain ⟨b, b1, b2⟩ := wid_R hu.2
  have hlow := N_low hu h0
  have n0 := N_nn X
  have k1 : Ab (X.x * X.x) (N X) := by have := N_x X; have := sq_nn X.x; unfold Ab; grind
  have k2 : Ab (X.y * X.y) (N X) := by have := N_y X; have := sq_nn X.y; unfold Ab; grind
  have q1 := sq_nn X.x
  have q2 := sq_nn X.y
  have e : X.x * X.x + X.y * X.y = N X := rfl
  have hg := hh
  have h4 : huge * 4 ≤ huge * huge := by decide +kernel
  obtain ⟨p, P, p1, p2, p3⟩ := mul_d a2 a2 k1 (by grind)
  obtain ⟨q, Q, r1, r2, r3⟩ := mul_d b2 b2 k2 (by grind)
  have p4 := near_d p3 k1 hlow
  have q4 := near_d r3 k2 hlow
  have p5 := near_nn_d p3 q1
  have q5 := near_nn_d r3 q2
  generalize X.x * X.x = xx at *
  generalize X.y * X.y = yy at *
  generalize N X = n at *
  have hb1 : Ab (P + Q) (n * 3) := by clear hlow h4 hg p2 r2 p3 r3 p1 r1; unfold e53 Ab at *; grind
  have hlow3 : tiny * tiny * tiny * tiny ≤ n * 3 := by grind
  obtain ⟨r, V, s1, s2, s3⟩ := add_d p2 r2 hb1 (by grind)
  have s4 := near_d s3 hb1 hlow3
  have s5 := near_nn_d s3 (by grind)
  refine ⟨r, V, by simp [powerO, a1, b1, show mul64 a a = some p from p1, show mul64 b b = some q from r1, show add64 p q = some r from s1], s2, s5, ?_⟩
  clear hlow h4 hg p2 r2 p3 r3 p1 r1 s1 s2 s3 hlow3
  unfold e53 Ab at *
  grind

/-- A word that stands for 0, read. -/
theorem R_zero_read {f : Format} {a : Nat} (h : R f a 0) : ∃ s p, f.read a = .number s 0 p := by
  obtain ⟨s, m, p, h1, h2⟩ := h
  refine ⟨s, p, ?_⟩
  have hm : m = 0 := by
    rcases Nat.eq_zero_or_pos m with e | e
    · exact e
    · exfalso
      have h3 : (0:Rat) < (m:Rat) := by exact_mod_cast e
      have h4 : (0:Rat) < (2:Rat)^p := Rat.zpow_pos (by decide)
      have := Rat.mul_pos h3 h4
      cases s <;> simp only [vD] at h2 <;> simp at h2 <;> grind
  rw [h1, hm]
theorem wid_zero {a : Nat} (h : R single a 0) : wid a = some 0 ∨ wid a = some 9223372036854775808 := by
  obtain ⟨s, p, h1⟩ := R_zero_read h
  unfold wid floatToFloatBits
  have e : FloatKind.f32.decode a = .number s 0 p := h1
  rw [if_neg (by decide), e]
  cases s
  · left
    have e1 : FloatKind.f64.encode (.number false 0 p) = 0 := rfl
    simp only [e1]
    rw [if_neg (by decide +kernel)]
  · right
    have e1 : FloatKind.f64.encode (.number true 0 p) = 9223372036854775808 := by
      rw [show FloatKind.f64.encode (.number true 0 p) = Format.nearest double true 0 p from rfl]
      unfold Format.nearest
      rw [if_pos rfl]
      rfl
    simp only [e1]
    rw [if_neg (by decide +kernel)]
theorem longO_zero {u : C} (h : RC u ⟨0, 0⟩) : longO u = some 0 := by
  have e : powerO u = some 0 := by
    rcases wid_zero h.1 with h1 | h1 <;> rcases wid_zero h.2 with h2 | h2 <;> simp only [powerO, h1, h2, Option.bind_some] <;> decide +kernel
  simp only [longO, e, Option.bind_some]
  decide +kernel
theorem R_00 : R single 0 0 := ⟨false, 0, -149, by decide +kernel, by simp [vD]⟩

theorem longO_R {u : C} {X : G} {B : Rat} (hu : RC u X) (hB : N X ≤ B * B) (h1 : tiny ≤ B) (h2 : B * B * 4 ≤ huge) :
    ∃ l L, longO u = some l ∧ R single l L ∧ 0 ≤ L ∧ L ≤ B * (1 + 4 * e24) ∧ ∀ b, tiny * 2 ≤ b → b * b ≤ N X → b * (1 - 4 * e24) ≤ L := by
  have ht0 := tiny_pos
  by_cases h0 : N X = 0
  · have e := N_zero h0
    subst e
    refine ⟨0, 0, longO_zero hu, R_00, by grind, ?_, ?_⟩
    · have := Rat.mul_nonneg (show 0 ≤ B by grind) (show (0:Rat) ≤ 1 + 4 * e24 by decide +kernel)
      exact this
    · intro b hb hbb
      exfalso
      rw [h0] at hbb
      have := Rat.mul_pos (show 0 < b by grind) (show 0 < b by grind)
      grind
  · have hn := N_nn X
    obtain ⟨p, P, p1, p2, p3, p4⟩ := powerO_R hu h0 (by grind)
    have hlow := N_low hu h0
    have hBB : tiny * tiny ≤ B * B := mul_mono (Rat.le_of_lt ht0) (Rat.le_of_lt ht0) h1 h1
    have hg : huge * 4 ≤ huge * huge := by decide +kernel
    have hB1 : 0 ≤ B := by grind
    have c1 : P * 4 ≤ (3 * B) * (3 * B) := by
      clear hlow hg hBB
      unfold e53 Ab at p4
      grind
    have hbh : B ≤ huge := by
      refine le_of_sq (by decide +kernel) ?_
      grind
    obtain ⟨s, S, D, δ, s1, s2, s3, s4, s5, s6⟩ := sqrt_d p2 p3 c1 (by grind) (by grind)
    have hm := (show Ab P P from Ab.self p3).mul s6
    have c2 : D * 1099511627776 ≤ B * 1099511627777 := by
      refine le_of_sq (by grind) ?_
      rw [show D * 1099511627776 * (D * 1099511627776) = (D * D) * (1099511627776 * 1099511627776) by grind, s5,
        show B * 1099511627777 * (B * 1099511627777) = (B * B) * (1099511627777 * 1099511627777) by grind, show P * (1 + δ) = P + P * δ by grind]
      clear hlow hg hBB s5 s3 p2 s2 c1 hbh h2
      generalize P * δ = Pd at *
      unfold e53 e54 Ab at *
      grind
    have cS := near_nn_d s3 s4
    have ht44 : tiny * tiny * tiny * tiny ≤ D + tiny := by
      have : tiny * tiny * tiny * tiny ≤ tiny := by decide +kernel
      grind
    have c3 := near_d s3 (B := D + tiny) (by unfold Ab; grind) ht44
    have c4 : Ab S (B * 2) := by
      clear hlow hg hBB s5 s3 p2 s2 c1 hbh h2 ht44 hm p4
      unfold e53 Ab at *
      grind
    have hb3 : B * 2 ≤ huge := by
      refine le_of_sq (by decide +kernel) ?_
      have : huge ≤ huge * huge := hh
      grind
    obtain ⟨l, L, l1, l2, l3⟩ := nar_R s2 c4 hb3
    have l4 := near_s l3 (B := B * 2) c4 (by grind)
    refine ⟨l, L, ?_, l2, l3.sgn.1 cS, ?_, ?_⟩
    · simp [longO, p1, show sqrt64 p = some s from s1, l1]
    · clear hlow hg hBB s5 s3 p2 s2 c1 hbh h2 ht44 hm p4 hb3 hB hn h0 s6 l3
      unfold e53 e24 Ab at *
      grind
    · intro b hb hbb
      have c5 : b * 1099511627775 ≤ D * 1099511627776 := by
        refine le_of_sq (by grind) ?_
        rw [show D * 1099511627776 * (D * 1099511627776) = (D * D) * (1099511627776 * 1099511627776) by grind, s5,
          show b * 1099511627775 * (b * 1099511627775) = (b * b) * (1099511627775 * 1099511627775) by grind, show P * (1 + δ) = P + P * δ by grind]
        clear hlow hg hBB s5 s3 p2 s2 c1 hbh h2 c2 c3 c4 hb3 l3 l4 hB ht44
        generalize P * δ = Pd at *
        unfold e53 e54 Ab at *
        grind
      have ht44' : tiny * tiny * tiny * tiny ≤ D := by
        have : tiny * tiny * tiny * tiny ≤ tiny := by decide +kernel
        grind
      have c6 := near_d s3 (B := D) (by unfold Ab; grind) ht44'
      have c7 : tiny ≤ S := by
        clear hlow hg hBB s5 s3 p2 s2 c1 hbh h2 c2 c3 c4 hb3 l3 l4 hB ht44 hm p4 ht44' hbb
        unfold e53 Ab at c6
        grind
      have c8 := near_s l3 (B := S) (by unfold Ab; grind) c7
      clear hlow hg hBB s5 s3 p2 s2 c1 hbh h2 c2 c3 c4 hb3 l3 l4 hB ht44 hm p4 ht44' hbb s6 h0 hn
      unfold e53 e24 Ab at *
      grind
theorem part_add' {a b c d : Nat} {x y z u M : Rat} (ha : R double a x) (hb : R double b y) (hc : R double c z) (hd : R double d u)
    (k1 : Ab (x * z) M) (k2 : Ab (y * u) M) (h1 : tiny * tiny ≤ M) (h2 : M ≤ huge) :
    ∃ p q r v, mul64 a c = some p ∧ mul64 b d = some q ∧ add64 p q = some r ∧ R double r v ∧ Ab (v - (x * z + y * u)) (M * (5 * e53)) := by
  have ht := tiny4
  have hg := hh
  have h4 : huge * 4 ≤ huge * huge := by decide +kernel
  have h5 : 0 < tiny * tiny := by decide +kernel
  obtain ⟨p, P, p1, p2, p3⟩ := mul_d ha hc k1 (by grind)
  obtain ⟨q, Q, q1, q2, q3⟩ := mul_d hb hd k2 (by grind)
  have p4 := near_d p3 k1 (by grind)
  have q4 := near_d q3 k2 (by grind)
  generalize x * z = X at *
  generalize y * u = Y at *
  have hb1 : Ab (P + Q) (M * 3) := by clear ha hb hc hd p3 q3 p2 q2; unfold e53 Ab at *; grind
  obtain ⟨r, V, r1, r2, r3⟩ := add_d p2 q2 hb1 (by grind)
  have r4 := near_d r3 hb1 (by grind)
  exact ⟨p, q, r, V, p1, q1, r1, r2, by clear ha hb hc hd p3 q3 r3 p2 q2 r2; unfold e53 Ab at *; grind⟩
theorem part_sub' {a b c d : Nat} {x y z u M : Rat} (ha : R double a x) (hb : R double b y) (hc : R double c z) (hd : R double d u)
    (k1 : Ab (x * z) M) (k2 : Ab (y * u) M) (h1 : tiny * tiny ≤ M) (h2 : M ≤ huge) :
    ∃ p q r v, mul64 a c = some p ∧ mul64 b d = some q ∧ sub64 p q = some r ∧ R double r v ∧ Ab (v - (x * z - y * u)) (M * (5 * e53)) := by
  have ht := tiny4
  have hg := hh
  have h4 : huge * 4 ≤ huge * huge := by decide +kernel
  have h5 : 0 < tiny * tiny := by decide +kernel
  obtain ⟨p, P, p1, p2, p3⟩ := mul_d ha hc k1 (by grind)
  obtain ⟨q, Q, q1, q2, q3⟩ := mul_d hb hd k2 (by grind)
  have p4 := near_d p3 k1 (by grind)
  have q4 := near_d q3 k2 (by grind)
  generalize x * z = X at *
  generalize y * u = Y at *
  have hb1 : Ab (P - Q) (M * 3) := by clear ha hb hc hd p3 q3 p2 q2; unfold e53 Ab at *; grind
  obtain ⟨r, V, r1, r2, r3⟩ := sub_d p2 q2 hb1 (by grind)
  have r4 := near_d r3 hb1 (by grind)
  exact ⟨p, q, r, V, p1, q1, r1, r2, by clear ha hb hc hd p3 q3 r3 p2 q2 r2; unfold e53 Ab at *; grind⟩
theorem sq_mul_le {a b p q : Rat} (ha : a * a ≤ p) (hb : b * b ≤ q) : (a * b) * (a * b) ≤ p * q := by
  have := mul_mono (sq_nn a) (sq_nn b) ha hb
  grind
theorem timesO_R' {u v : C} {X Y : G} {M : Rat} (hu : RC u X) (hv : RC v Y) (hM0 : 0 ≤ M) (hM : N X * N Y ≤ M * M) (h1 : tiny * tiny ≤ M) (h2 : M ≤ huge) :
    ∃ t T, timesO u v = some t ∧ RD t T ∧ Bd (T - X * Y) (M * (5 * e53)) := by
  obtain ⟨a, a1, a2⟩ := wid_R hu.1
  obtain ⟨b, b1, b2⟩ := wid_R hu.2
  obtain ⟨c, c1, c2⟩ := wid_R hv.1
  obtain ⟨d, d1, d2⟩ := wid_R hv.2
  have kxx := ab_of_sq hM0 (Rat.le_trans (sq_mul_le (N_x X) (N_x Y)) hM)
  have kyy := ab_of_sq hM0 (Rat.le_trans (sq_mul_le (N_y X) (N_y Y)) hM)
  have kxy := ab_of_sq hM0 (Rat.le_trans (sq_mul_le (N_x X) (N_y Y)) hM)
  have kyx := ab_of_sq hM0 (Rat.le_trans (sq_mul_le (N_y X) (N_x Y)) hM)
  obtain ⟨p, q, r, V, p1, p2, p3, p4, p5⟩ := part_sub' a2 b2 c2 d2 kxx kyy h1 h2
  obtain ⟨p', q', r', V', q1, q2, q3, q4, q5⟩ := part_add' a2 b2 d2 c2 kxy kyx h1 h2
  refine ⟨(r, r'), ⟨V, V'⟩, ?_, ⟨p4, q4⟩, p5, q5⟩
  simp [timesO, a1, b1, c1, d1, p1, p2, p3, q1, q2, q3]
/-- One part of a quotient. -/
theorem part_quo {t p : Nat} {T P Q n B : Rat} (ht : R double t T) (hp : R double p P) (hQ : Ab Q B) (hT : Ab (T - Q * n) (B * n * (10 * e53))) (hP : Ab (P - n) (n * (5 * e53)))
    (hn : 0 < n) (h1 : tiny ≤ B) (h2 : B * 8 ≤ huge) :
    ∃ a v, div64 t p = some a ∧ R double a v ∧ Ab (v - Q) (B * (40 * e53)) := by
  have hB0 : 0 < B := by have := tiny_pos; grind
  have hP0 : n ≤ P * 2 := by clear hT hQ ht hp h1 h2; unfold e53 Ab at *; grind
  have hP1 : P ≠ 0 := by grind
  obtain ⟨q, hq⟩ : ∃ q : Rat, q * P = T := ⟨T / P, div_mul_self hP1⟩
  have hQP := hQ.mul hP
  have hBn := Rat.mul_pos hB0 hn
  have e1 : Ab ((q - Q) * P) (B * n * (15 * e53)) := by
    have e : (q - Q) * P = (T - Q * n) - Q * (P - n) := by grind
    rw [e]
    rw [show B * (n * (5 * e53)) = B * n * (5 * e53) by grind] at hQP
    generalize Q * (P - n) = w at *
    generalize B * n = m at *
    clear hq hP hQ ht hp h1 h2
    unfold e53 Ab at *
    grind
  have e2 : Ab (q - Q) (B * (30 * e53)) := by
    have hPp : 0 < P := by grind
    have hk : B * n * (15 * e53) ≤ B * (30 * e53) * P := by
      have := Rat.mul_le_mul_of_nonneg_left hP0 (show 0 ≤ B * (15 * e53) from Rat.mul_nonneg (by grind) (by decide +kernel))
      grind
    refine ⟨?_, ?_⟩
    · exact le_of_mul hPp (by have := e1.1; grind)
    · exact le_of_mul hPp (by have := e1.2; grind)
  have hqb : Ab q (B * 2) := by
    clear e1 hBn hQP hP hT hP0 hP1 hq h2 ht hp
    unfold e53 Ab at *
    grind
  have hg : huge ≤ huge * huge := hh
  obtain ⟨a, v, D, a1, a2, a3, a4⟩ := div_d ht hp hP1 hq hqb (by grind)
  have hDb : Ab D (B * 3) := by
    clear e1 e2 hBn hQP hP hT hP0 hP1 hq h2 ht hp a3 a2
    unfold e54 Ab at *
    grind
  have ht44 : tiny * tiny * tiny * tiny ≤ B * 3 := by
    have : tiny * tiny * tiny * tiny ≤ tiny := by decide +kernel
    grind
  have a5 := near_d a3 hDb ht44
  refine ⟨a, v, a1, a2, ?_⟩
  clear e1 hBn hQP hP hT hP0 hP1 hq h2 ht hp a3 a2 hDb hqb ht44 h1
  unfold e53 e54 Ab at *
  grind
theorem quotO_R {u v : C} {X Y Q : G} {B : Rat} (hu : RC u X) (hv : RC v Y) (hQ : Q * Y = X) (hb : Bd Q B) (h1 : tiny ≤ B) (h2 : B * 8 ≤ huge) (h3 : N Y ≠ 0) (h4 : N Y ≤ huge) (h5 : tiny * tiny ≤ 2 * (B * N Y)) (h6 : 2 * (B * N Y) ≤ huge) :
    ∃ q V, quotO u v = some q ∧ RC q V ∧ Bd (V - Q) (B * (4 * e24)) := by
  have hB0 : 0 ≤ B := hb.nn
  have hn0 : 0 < N Y := by have := N_nn Y; grind
  have hBn : 0 ≤ B * N Y := Rat.mul_nonneg hB0 (Rat.le_of_lt hn0)
  obtain ⟨p, P, p1, p2, p3, p4⟩ := powerO_R hv h3 h4
  have hNX : N X * N (conj Y) ≤ 2 * (B * N Y) * (2 * (B * N Y)) := by
    rw [N_conj, ← hQ, N_mul]
    have e : 2 * (B * N Y) * (2 * (B * N Y)) = (4 * (B * B)) * (N Y * N Y) := by grind
    rw [e, Rat.mul_assoc]
    have := N_bd hb
    have := sq_nn B
    exact Rat.mul_le_mul_of_nonneg_right (by grind) (sq_nn _)
  obtain ⟨t, T, t1, t2, t3⟩ := timesO_R' hu (conj_R hv) (show 0 ≤ 2 * (B * N Y) by grind) hNX h5 h6
  have ex : (X * conj Y).x = Q.x * N Y := by rw [← hQ]; unfold N; simp only [mul_x, mul_y, conj_x, conj_y]; grind
  have ey : (X * conj Y).y = Q.y * N Y := by rw [← hQ]; unfold N; simp only [mul_x, mul_y, conj_x, conj_y]; grind
  have tx : Ab (T.x - Q.x * N Y) (B * N Y * (10 * e53)) := by
    have := t3.1; rw [sub_x, ex] at this; exact this.mono (by grind)
  have ty : Ab (T.y - Q.y * N Y) (B * N Y * (10 * e53)) := by
    have := t3.2; rw [sub_y, ey] at this; exact this.mono (by grind)
  obtain ⟨a, va, a1, a2, a3⟩ := part_quo t2.1 p2 hb.1 tx p4 hn0 h1 h2
  obtain ⟨b, vb, b1, b2, b3⟩ := part_quo t2.2 p2 hb.2 ty p4 hn0 h1 h2
  have hb2 : Bd (⟨va, vb⟩ : G) (B * 2) := by
    have hx := hb.1
    have hy := hb.2
    clear hu hv hQ hb h1 h2 h3 h4 h5 h6 hn0 hBn p1 p2 p3 p4 hNX t1 t2 t3 ex ey tx ty a1 a2 b1 b2
    unfold Bd e53 Ab at *
    grind
  obtain ⟨m, V, m1, m2, m3, m4⟩ := narC_R (t := (a, b)) ⟨a2, b2⟩ hb2 (by grind)
  have k3 := near_s m3 hb2.1 (by grind)
  have k4 := near_s m4 hb2.2 (by grind)
  refine ⟨m, V, by simp [quotO, t1, p1, a1, b1, m1], m2, ?_⟩
  clear hu hv hQ hb h1 h2 h3 h4 h5 h6 hn0 hBn p1 p2 p3 p4 hNX t1 t2 t3 ex ey tx ty a1 a2 b1 b2 m1 m2 m3 m4
  unfold Bd e53 e24 Ab at *
  simp only [sub_x, sub_y] at *
  grind
end Go.Proofs.Ytlhdgbiaiacpfaa
