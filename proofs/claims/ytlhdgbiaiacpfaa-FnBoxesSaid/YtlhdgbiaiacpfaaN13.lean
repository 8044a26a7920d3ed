/- Angles that are small, and the phasors of small turns. -/
import Derived.Test.YtlhdgbiaiacpfaaN12
import Derived.Test.YtlhdgbiaiacpfaaW16
namespace Go.Proofs.Ytlhdgbiaiacpfaa
open Go.RowKit Num Ieee
open G
def W64 (w : Nat) : Prop := w < 18446744073709551616
theorem write_64 (d : Datum) : W64 (double.write d) := double.write_lt d
theorem map_64 {o : Option Datum} {w : Nat} (h : o.map double.write = some w) : W64 w := by
  cases o with
  | none => cases h
  | some d => cases h; exact write_64 d
theorem wid_64 {a w : Nat} (h : wid a = some w) : W64 w := by
  unfold wid floatToFloatBits at h
  rw [if_neg (by decide)] at h
  split at h
  · cases h
  · cases h; exact write_64 _
  · split at h
    · cases h
    · cases h; exact write_64 _
def lo64 : Rat := 1 / 2 ^ 60
def hi64 : Rat := 2 ^ 60
theorem lh64 : tiny * tiny * tiny * tiny ≤ lo64 ∧ hi64 * 4 ≤ huge * huge ∧ 0 < lo64 := by decide +kernel
theorem mul64_R {a b : Nat} {x y B : Rat} (hx : R double a x) (hy : R double b y) (h : Ab (x * y) B) (h1 : lo64 ≤ B) (h2 : B ≤ hi64) :
    ∃ w v, mul64 a b = some w ∧ R double w v ∧ Ab (v - x * y) (B * e53) ∧ (0 ≤ x * y → 0 ≤ v) ∧ W64 w := by
  obtain ⟨l1, l2, l3⟩ := lh64
  obtain ⟨w, v, w1, w2, w3⟩ := mul_d hx hy h (by grind)
  exact ⟨w, v, w1, w2, near_d w3 h (by grind), w3.sgn.1, map_64 w1⟩
theorem add64_R {a b : Nat} {x y B : Rat} (hx : R double a x) (hy : R double b y) (h : Ab (x + y) B) (h1 : lo64 ≤ B) (h2 : B ≤ hi64) :
    ∃ w v, add64 a b = some w ∧ R double w v ∧ Ab (v - (x + y)) (B * e53) ∧ (0 ≤ x + y → 0 ≤ v) ∧ W64 w := by
  obtain ⟨l1, l2, l3⟩ := lh64
  obtain ⟨w, v, w1, w2, w3⟩ := add_d hx hy h (by grind)
  exact ⟨w, v, w1, w2, near_d w3 h (by grind), w3.sgn.1, map_64 w1⟩
theorem sub64_R {a b : Nat} {x y B : Rat} (hx : R double a x) (hy : R double b y) (h : Ab (x - y) B) (h1 : lo64 ≤ B) (h2 : B ≤ hi64) :
    ∃ w v, sub64 a b = some w ∧ R double w v ∧ Ab (v - (x - y)) (B * e53) ∧ (0 ≤ x - y → 0 ≤ v) ∧ W64 w := by
  obtain ⟨l1, l2, l3⟩ := lh64
  obtain ⟨w, v, w1, w2, w3⟩ := sub_d hx hy h (by grind)
  exact ⟨w, v, w1, w2, near_d w3 h (by grind), w3.sgn.1, map_64 w1⟩
theorem div64_R {a b : Nat} {x y q B : Rat} (hx : R double a x) (hy : R double b y) (hy0 : y ≠ 0) (hq : q * y = x) (h : Ab q B) (h1 : lo64 ≤ B) (h2 : B ≤ hi64) :
    ∃ w v, div64 a b = some w ∧ R double w v ∧ Ab (v - q) (B * (2 * e53)) ∧ W64 w := by
  obtain ⟨l1, l2, l3⟩ := lh64
  obtain ⟨w, v, D, w1, w2, w3, w4⟩ := div_d hx hy hy0 hq h (by grind)
  have hD : Ab D (B * (1 + e54)) := by unfold Ab at *; grind
  have k := near_d w3 hD (by have := Rat.mul_nonneg (show 0 ≤ B by grind) (show 0 ≤ e54 by decide +kernel); grind)
  refine ⟨w, v, w1, w2, ?_, map_64 w1⟩
  clear h1 h2 hD w3 hx hy hq
  unfold e53 e54 Ab at *
  grind
/-- The same, and not negative. -/
theorem div64_nn {a b w : Nat} {x y v : Rat} (hx : R double a x) (hy : R double b y) (h0 : 0 ≤ x) (h1 : 0 < y) (hb : x ≤ y * hi64) (hw : div64 a b = some w) (hv : R double w v) : 0 ≤ v := by
  obtain ⟨l1, l2, l3⟩ := lh64
  have hq : Ab (x / y) hi64 := by
    have e : x / y * y = x := div_mul_self (by grind)
    constructor
    · exact le_of_mul h1 (by grind)
    · exact le_of_mul h1 (by grind)
  have hm : hi64 * 2 ≤ huge * huge := by decide +kernel
  obtain ⟨w', v', D, δ, w1, w2, w3, w4, w5⟩ := div_R (D' := hi64 * 2) fits_d hx hy (by grind) (fun D δ h3 h4 => by
    have h5 := ab54 h4
    have e : x / y * y = x := div_mul_self (by grind)
    have e2 : D = x / y * (1 + δ) := by
      have : (D - x / y * (1 + δ)) * y = 0 := by grind
      grind
    have := hq.mul h5
    have e54s : e54 ≤ 1 := by decide +kernel
    have := Rat.mul_le_mul_of_nonneg_left e54s (show 0 ≤ hi64 by decide +kernel)
    unfold Ab at *
    grind) (by have := huge_d; grind)
  have e : w' = w := Option.some.inj (w1.symm.trans hw)
  subst e
  have e2 := R_inj w2 hv
  subst e2
  refine w3.sgn.1 ?_
  have hδ := ab54 w5
  have h1d : 0 ≤ 1 + δ := by unfold Ab e54 at hδ; grind
  have := Rat.mul_nonneg h0 h1d
  exact le_of_mul h1 (by grind)
theorem sqrt64_R {a : Nat} {x : Rat} (hx : R double a x) (h0 : 1/4 ≤ x) (h1 : x ≤ 1000000000000) :
    ∃ w v, sqrt64 a = some w ∧ R double w v ∧ 0 ≤ v ∧ v * v ≤ x * (1 + 1/100000000) ∧ x * (1 - 1/100000000) ≤ v * v := by
  obtain ⟨w, v, D, δ, w1, w2, w3, w4, w5, w6⟩ := sqrt_d (B := 10000000) hx (by grind) (by grind) (by decide +kernel) (by decide +kernel)
  have hm := (Ab.self (show 0 ≤ x by grind)).mul w6
  have hDD : x * (1 - 1/1000000000) ≤ D * D ∧ D * D ≤ x * (1 + 1/1000000000) := by
    rw [w5, show x * (1 + δ) = x + x * δ by grind]
    clear w3 w5 w6 hx w1 w2
    unfold Ab e54 at *
    grind
  have hDl : 1/10 ≤ D := le_of_sq w4 (by grind)
  have k := near_d (B := D) w3 (by unfold Ab; grind) (Rat.le_trans (show tiny * tiny * tiny * tiny ≤ 1/10 by decide +kernel) hDl)
  have hv0 := near_nn_d w3 w4
  refine ⟨w, v, w1, w2, hv0, ?_, ?_⟩
  all_goals
    obtain ⟨ε, hε⟩ : ∃ ε, v = D + ε := ⟨v - D, by grind⟩
    subst hε
    have hε : Ab ε (D * (1/10000000000)) := by
      have e : D + ε - D = ε := by grind
      rw [e] at k
      refine k.mono ?_
      exact Rat.mul_le_mul_of_nonneg_left (show e53 ≤ 1/10000000000 by decide +kernel) w4
    have hDε := (show Ab D D by unfold Ab; grind).mul hε
    have hεε := hε.mul hε
    rw [show (D + ε) * (D + ε) = D * D + 2 * (D * ε) + ε * ε by grind]
    rw [show D * (D * (1/10000000000)) = D * D * (1/10000000000) by grind] at hDε
    rw [show D * (1/10000000000) * (D * (1/10000000000)) = D * D * (1/100000000000000000000) by grind] at hεε
    clear k w3 w5 w6 hx w1 w2 hε hv0
    generalize D * D = DD at *
    generalize D * ε = a at *
    generalize ε * ε = b at *
    unfold Ab at *
    grind
theorem one64_R : R double one64 1 := chk_R (by decide +kernel)
theorem half64_R : R double half64 (1/2) := chk_R (by decide +kernel)
theorem quarter64_R : R double quarter64 (1/4) := chk_R (by decide +kernel)
theorem eight64_R : R double eight64 8 := chk_R (by decide +kernel)
/-- Two times the circle's number, as the program has it. -/
def tau : Rat := 7074237752028440 / 1125899906842624
theorem tau64_R : R double tau64 tau := chk_R (by decide +kernel)
theorem tau_b : 62831853/10000000 ≤ tau ∧ tau ≤ 62831854/10000000 := by decide +kernel
theorem zero64_R : R double 0 0 := chk_R (by decide +kernel)
/-- Half of an angle's tangent. -/
theorem angT_R {t : Nat} {x : Rat} (hx : R double t x) (h0 : 0 ≤ x) (h1 : x ≤ 1) :
    ∃ r v, angT t = some r ∧ R double r v ∧ 0 ≤ v ∧ v ≤ x * (51/100) + 1/1000000000 := by
  have he : e53 ≤ 1/10000000000 ∧ 0 ≤ e53 := by decide +kernel
  have hl : lo64 ≤ 1 := by decide +kernel
  have hh : 4 ≤ hi64 := by decide +kernel
  have hxx : Ab (x * x) 1 := by
    have := (show Ab x 1 by unfold Ab; grind).mul (show Ab x 1 by unfold Ab; grind)
    exact this.mono (by decide +kernel)
  obtain ⟨tt, v1, a1, a2, a3, a4, _⟩ := mul64_R hx hx hxx hl (by grind)
  have q0 := sq_nn x
  have a5 := a4 q0
  have b0 : Ab (1 + v1) 3 := by unfold Ab at *; grind
  obtain ⟨s, v2, b1, b2, b3, _, _⟩ := add64_R one64_R a2 b0 (by grind) (by grind)
  have b4 : 99/100 ≤ v2 ∧ v2 ≤ 21/10 := by unfold Ab at *; grind
  obtain ⟨r, v3, c1, c2, c3, c4, c5⟩ := sqrt64_R b2 (by grind) (by grind)
  have c6 : 99/100 ≤ v3 := le_of_sq c3 (by grind)
  have c7 : v3 ≤ 2 := le_of_sq (by decide +kernel) (by grind)
  have d0 : Ab (1 + v3) 3 := by unfold Ab; grind
  obtain ⟨d, v4, d1, d2, d3, _, _⟩ := add64_R one64_R c2 d0 (by grind) (by grind)
  have d4 : 198/100 ≤ v4 ∧ v4 ≤ 4 := by unfold Ab at *; grind
  have hv4 : (0:Rat) < v4 := by grind
  obtain ⟨q, hq⟩ : ∃ q : Rat, q * v4 = x := ⟨x / v4, div_mul_self (by grind)⟩
  have q1 : 0 ≤ q := le_of_mul hv4 (by grind)
  have q2 : q ≤ x * (506/1000) := by
    refine le_of_mul hv4 ?_
    have := Rat.mul_le_mul_of_nonneg_left d4.1 (show 0 ≤ x * (506/1000) from Rat.mul_nonneg h0 (by decide +kernel))
    grind
  obtain ⟨w, v, e1, e2, e3, _⟩ := div64_R (B := 1) hx d2 (by grind) hq (by unfold Ab; grind) hl (by grind)
  have hn := div64_nn hx d2 h0 hv4 (by
    have := Rat.mul_le_mul_of_nonneg_left hh (show 0 ≤ v4 by grind)
    grind) e1 e2
  refine ⟨w, v, by simp [angT, a1, b1, show sqrt64 s = some r from c1, d1, e1], e2, hn, ?_⟩
  unfold Ab at e3
  grind
/-- The terms 1/15, 1/13, .. 1. -/
theorem angC_vals : (List.range 8).all (fun i => match double.read (angC i) with
    | .number s m p => decide (6/100 ≤ vD (.number s m p)) && decide (vD (.number s m p) ≤ 1)
    | _ => false) = true := by decide +kernel
theorem angC_R {i : Nat} (h : i < 8) : ∃ c, R double (angC i) c ∧ 6/100 ≤ c ∧ c ≤ 1 := by
  have := angC_vals
  rw [List.all_eq_true] at this
  have := this i (by simpa using h)
  split at this
  · rename_i s m p e
    simp only [Bool.and_eq_true, decide_eq_true_eq] at this
    exact ⟨_, ⟨s, m, p, e, rfl⟩, this.1, this.2⟩
  · cases this
theorem angP_R {u : Nat} {x : Rat} (hx : R double u x) (h0 : 0 ≤ x) (h1 : x ≤ 5/100) :
    ∀ i, i ≤ 8 → ∃ p v, angP u i = some p ∧ R double p v ∧ 0 ≤ v ∧ v ≤ 101/100 := by
  have he : e53 ≤ 1/10000000000 ∧ 0 ≤ e53 := by decide +kernel
  have hl : lo64 ≤ 1 := by decide +kernel
  have hh : 4 ≤ hi64 := by decide +kernel
  intro i
  induction i with
  | zero => intro _; exact ⟨0, 0, rfl, zero64_R, by grind, by grind⟩
  | succ i ih =>
    intro hi
    obtain ⟨p, v, a1, a2, a3, a4⟩ := ih (by omega)
    obtain ⟨c, c1, c2, c3⟩ := angC_R (i := i) (by omega)
    have hm := (show Ab x (5/100) by unfold Ab; grind).mul (show Ab v (101/100) by unfold Ab; grind)
    have hm1 : Ab (x * v) 1 := hm.mono (by decide +kernel)
    obtain ⟨up, w, b1, b2, b3, b4, _⟩ := mul64_R hx a2 hm1 hl (by grind)
    have b5 := b4 (Rat.mul_nonneg h0 a3)
    have hw : w ≤ 6/100 := by unfold Ab at *; grind
    have hs : Ab (c - w) 2 := by unfold Ab; grind
    obtain ⟨q, z, d1, d2, d3, d4, _⟩ := sub64_R c1 b2 hs (by grind) (by grind)
    refine ⟨q, z, by simp [angP, a1, b1, d1], d2, d4 (by grind), ?_⟩
    unfold Ab at d3
    grind
theorem absW_R {w : Nat} {x : Rat} (h : R double w x) : R double (absW w) (if x < 0 then -x else x) := by
  obtain ⟨s, m, p, h1, h2⟩ := h
  have hs : double.signWeight = 9223372036854775808 := by decide
  have e1 : absW w % double.signWeight = w % double.signWeight := by rw [hs]; unfold absW; omega
  have e2 : (absW w / double.signWeight % 2 == 1) = false := by
    rw [hs]
    have : absW w / 9223372036854775808 = 0 := by unfold absW; omega
    rw [this]; rfl
  have hr : double.read (absW w) = .number false m p := by
    unfold Format.read at h1 ⊢
    simp only [e1, e2] at h1 ⊢
    generalize w % double.signWeight = r at h1 ⊢
    by_cases c1 : r < double.binade
    · rw [if_pos c1] at h1 ⊢
      injection h1 with a b c
      rw [b, c]
    · rw [if_neg c1] at h1 ⊢
      by_cases c2 : r < double.infRung
      · rw [if_pos c2] at h1 ⊢
        injection h1 with a b c
        rw [b, c]
      · rw [if_neg c2] at h1
        split at h1 <;> cases h1
  refine ⟨false, m, p, hr, ?_⟩
  have h3 : (0:Rat) ≤ (m:Rat) := by exact_mod_cast Nat.zero_le _
  have h4 : (0:Rat) < (2:Rat)^p := Rat.zpow_pos (by decide)
  have h5 := Rat.mul_nonneg h3 (Rat.le_of_lt h4)
  cases s <;> simp only [vD] at h2 ⊢ <;> simp at h2 ⊢ <;> split <;> grind
theorem order_lt {f : Format} {a b : Nat} {x y : Rat} (hx : R f a x) (hy : R f b y) : (f.order a b == some .lt) = decide (x < y) := by
  have o := order_R hx hy
  rcases rat_tri (x - y) with h | h | h
  · rw [o.1 (by grind)]; simp; grind
  · rw [o.2.1 (by grind)]; simp; grind
  · rw [o.2.2 (by grind)]; simp; grind
theorem order_gt {f : Format} {a b : Nat} {x y : Rat} (hx : R f a x) (hy : R f b y) : (f.order a b == some .gt) = decide (y < x) := by
  have o := order_R hx hy
  rcases rat_tri (x - y) with h | h | h
  · rw [o.1 (by grind)]; simp; grind
  · rw [o.2.1 (by grind)]; simp; grind
  · rw [o.2.2 (by grind)]; simp; grind
theorem order_eq {f : Format} {a b : Nat} {x y : Rat} (hx : R f a x) (hy : R f b y) : (f.order a b == some .eq) = decide (x = y) := by
  have o := order_R hx hy
  rcases rat_tri (x - y) with h | h | h
  · rw [o.1 (by grind)]; simp; grind
  · rw [o.2.1 (by grind)]; simp; grind
  · rw [o.2.2 (by grind)]; simp; grind
theorem order_same {x y : Nat} {a b : Nat} {u v : Rat} (hx : R single x u) (hy : R single y v) (ha : R double a u) (hb : R double b v) : double.order a b = single.order x y := by
  have o := order_R hx hy
  have o' := order_R ha hb
  rcases rat_tri (u - v) with h | h | h
  · rw [o.1 (by grind), o'.1 (by grind)]
  · rw [o.2.1 (by grind), o'.2.1 (by grind)]
  · rw [o.2.2 (by grind), o'.2.2 (by grind)]
theorem self64 {a : Nat} {x : Rat} (h : R double a x) : sub64 a a = some 0 := sub_self_R h
/-- The angle of a number to the right: small where it is near to the axis. -/
theorem angle_small {z : C} {X : G} (h : RC z X) (hx : 0 < X.x) (hy : Ab X.y (X.x * (34/100))) :
    ∃ an t, AngleIs z an ∧ SAngleIs z an ∧ R single an t ∧ Ab t (6/100) := by
  have he : e53 ≤ 1/10000000000 ∧ 0 ≤ e53 := by decide +kernel
  have hl : lo64 ≤ 1 := by decide +kernel
  have hh : 4 ≤ hi64 := by decide +kernel
  obtain ⟨wx, a1, a2⟩ := wid_R h.1
  obtain ⟨wy, b1, b2⟩ := wid_R h.2
  have ax := absW_R a2
  have ay := absW_R b2
  rw [if_neg (by grind)] at ax
  obtain ⟨Y, hY⟩ : ∃ Y : Rat, Y = if X.y < 0 then -X.y else X.y := ⟨_, rfl⟩
  rw [← hY] at ay
  have hY0 : 0 ≤ Y := by rw [hY]; split <;> grind
  have hY1 : Y ≤ X.x * (34/100) := by unfold Ab at hy; rw [hY]; split <;> grind
  obtain ⟨q, hq⟩ : ∃ q : Rat, q * X.x = Y := ⟨Y / X.x, div_mul_self (by grind)⟩
  have q1 : 0 ≤ q := le_of_mul hx (by grind)
  have q2 : q ≤ 34/100 := le_of_mul hx (by grind)
  obtain ⟨t0, v0, c1, c2, c3, c4⟩ := div64_R (B := 1) ay ax (by grind) hq (by unfold Ab; grind) hl (by grind)
  have c5 : 0 ≤ v0 := div64_nn ay ax hY0 hx (by
    have := Rat.mul_le_mul_of_nonneg_left hh (show 0 ≤ X.x by grind)
    grind) c1 c2
  have c6 : v0 ≤ 341/1000 := by unfold Ab at c3; grind
  obtain ⟨t1, v1, d1, d2, d3, d4⟩ := angT_R c2 c5 (by grind)
  obtain ⟨t2, v2, e1, e2, e3, e4⟩ := angT_R d2 d3 (by grind)
  obtain ⟨t3, v3, f1, f2, f3, f4⟩ := angT_R e2 e3 (by grind)
  have f5 : v3 ≤ 46/1000 := by grind
  have hu0 : Ab (v3 * v3) 1 := by
    have := (show Ab v3 1 by unfold Ab; grind).mul (show Ab v3 1 by unfold Ab; grind)
    exact this.mono (by decide +kernel)
  have hu1 := mul_mono f3 f3 f5 f5
  obtain ⟨u, vu, g1, g2, g3, g4, _⟩ := mul64_R f2 f2 hu0 hl (by grind)
  have g5 := g4 (sq_nn v3)
  have g6 : vu ≤ 5/100 := by unfold Ab at g3; grind
  obtain ⟨p, vp, p1, p2, p3, p4⟩ := angP_R g2 g5 g6 8 (by omega)
  have hm1 := mul_mono f3 p3 f5 p4
  have hm0 := Rat.mul_nonneg f3 p3
  obtain ⟨tp, vtp, k1, k2, k3, k4, _⟩ := mul64_R (B := 1) f2 p2 (by unfold Ab; grind) hl (by grind)
  have k5 := k4 hm0
  have k6 : vtp ≤ 4647/100000 := by unfold Ab at k3; grind
  obtain ⟨e, ve, l1, l2, l3, l4, _⟩ := mul64_R (B := 1) eight64_R k2 (by unfold Ab; grind) hl (by grind)
  have l5 := l4 (by grind)
  have l6 : ve ≤ 372/1000 := by unfold Ab at l3; grind
  have ht := tau_b
  obtain ⟨g, hg⟩ : ∃ g : Rat, g * tau = ve := ⟨ve / tau, div_mul_self (by grind)⟩
  have hg0 : 0 ≤ g := le_of_mul (show 0 < tau by grind) (by grind)
  have hg1 : g ≤ 5925/100000 := le_of_mul (show 0 < tau by grind) (by grind)
  obtain ⟨gw, vg, m1, m2, m3, m4⟩ := div64_R (B := 1) l2 tau64_R (by grind) hg (by unfold Ab; grind) hl (by grind)
  have m5 : 0 ≤ vg := div64_nn l2 tau64_R l5 (by grind) (by
    have := mul_mono (show (0:Rat) ≤ 1 by grind) (show (0:Rat) ≤ 1 by grind) (show 1 ≤ tau by grind) (show 1 ≤ hi64 by grind)
    grind) m1 m2
  have m6 : vg ≤ 593/10000 := by unfold Ab at m3; grind
  obtain ⟨g3w, hg3⟩ : ∃ g3w, g3w = if decide (X.y < 0) then neg64 gw else gw := ⟨_, rfl⟩
  obtain ⟨v3', r1, r2⟩ : ∃ v3', R double g3w v3' ∧ Ab v3' (593/10000) := by
    rw [hg3]
    split
    · exact ⟨-vg, neg64_R m2, by unfold Ab; grind⟩
    · exact ⟨vg, m2, by unfold Ab; grind⟩
  obtain ⟨an, t, s1, s2, s3⟩ := nar_R r1 r2 (by decide +kernel)
  have s4 := near_s s3 r2 (by decide +kernel)
  have s5 : Ab t (6/100) := by
    have := e24_small
    unfold Ab at *
    grind
  have hle : Y < X.x := by grind
  have AI : AngIn z.2 z.1 wy wx false (decide (X.y < 0)) := by
    refine ⟨Fin_R h.2, Fin_R h.1, b1, a1, wid_64 b1, wid_64 a1, .inl ?_, ?_, ?_, self64 b2, self64 a2, ?_, ?_⟩
    · have := order_eq h.1 R_00
      rw [show FloatKind.f32.format.order z.1 0 = single.order z.1 0 from rfl, this]
      simp; grind
    · have := order_lt h.1 R_00
      rw [show FloatKind.f32.format.order z.1 0 = single.order z.1 0 from rfl, this]
      simp; grind
    · have := order_lt h.2 R_00
      rw [show FloatKind.f32.format.order z.2 0 = single.order z.2 0 from rfl, this]
    · exact order_same h.1 R_00 a2 zero64_R
    · exact order_same h.2 R_00 b2 zero64_R
  have AA : Ang (absW wy) (absW wx) t0 t0 t1 t2 t3 u p gw gw gw g3w false false (decide (X.y < 0)) := by
    refine ⟨c1, ?_, by simp, d1, e1, f1, g1, p1, by simp [angE, k1, l1, m1], by simp, by simp, hg3.symm⟩
    unfold gt64
    rw [show FloatKind.f64.format.order (absW wy) (absW wx) = double.order (absW wy) (absW wx) from rfl, order_gt ay ax]
    simp; grind
  exact ⟨an, t, .inr ⟨_, _, _, _, _, _, _, _, _, _, _, _, _, _, _, _, AI, AA, s1⟩, .inr ⟨_, _, _, _, _, _, _, _, _, _, _, _, _, _, _, _, AI, AA, s1⟩, s2, s5⟩
end Go.Proofs.Ytlhdgbiaiacpfaa
