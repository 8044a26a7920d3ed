/- Halley's step near a root. -/
import Derived.Test.YtlhdgbiaiacpfaaGreatN17
namespace Go.Proofs.YtlhdgbiaiacpfaaGreat
open Go.RowKit Num Ieee
open G
/-- A size like that of D. -/
theorem scale_of {x : Rat} (h1 : 1/25 < x) : ∀ K : Nat, x ≤ (2:Rat) ^ K / 5 * (2 ^ K / 5) → ∃ d : Rat, 1/5 ≤ d ∧ d ≤ 2 ^ K / 5 ∧ x ≤ d * d ∧ d * d ≤ 4 * x := by
  intro K
  induction K with
  | zero =>
    intro h
    have : (2:Rat) ^ 0 / 5 * (2 ^ 0 / 5) = 1/25 := by decide +kernel
    grind
  | succ K ih =>
    intro h
    have e : (2:Rat) ^ (K + 1) = 2 ^ K * 2 := Rat.pow_succ _ _
    have hge : ∀ K : Nat, (1:Rat) ≤ 2 ^ K := by
      intro K
      induction K with
      | zero => decide +kernel
      | succ K ih => rw [Rat.pow_succ]; grind
    have hK := hge K
    rw [e] at h ⊢
    by_cases hk : x ≤ (2:Rat) ^ K / 5 * (2 ^ K / 5)
    · obtain ⟨d, d1, d2, d3, d4⟩ := ih hk
      exact ⟨d, d1, by grind, d3, d4⟩
    · generalize (2:Rat) ^ K = g at *
      exact ⟨g * 2 / 5, by grind, by grind, by grind, by grind⟩
/-- An error in units of d d is one in units of D D. -/
theorem abs_rel {E D : G} {d β : Rat} (hd : d * d ≤ 4 * N D) (hd0 : 0 ≤ d) (hβ : 0 ≤ β) (h : Bd E (β * (d * d))) : Le E (β * 6) (D * D) := by
  refine ⟨by grind, ?_⟩
  have h1 := N_bd h
  rw [N_mul]
  have h2 := mul_mono (Rat.mul_nonneg hd0 hd0) (Rat.mul_nonneg hd0 hd0) hd hd
  have h3 := Rat.mul_le_mul_of_nonneg_left h2 (Rat.mul_nonneg hβ hβ)
  have h4 := Rat.mul_nonneg (Rat.mul_nonneg hβ hβ) (Rat.mul_nonneg (N_nn D) (N_nn D))
  have e1 : β * (d * d) * (β * (d * d)) = β * β * (d * d * (d * d)) := by grind
  rw [e1] at h1
  have e2 : β * β * (4 * N D * (4 * N D)) = 16 * (β * β * (N D * N D)) := by grind
  rw [e2] at h3
  have e3 : β * 6 * (β * 6) * (N D * N D) = 36 * (β * β * (N D * N D)) := by grind
  rw [e3]
  grind
theorem Le.bdd {A D : G} {a d : Rat} (h : Le A a D) (hd : N D ≤ d * d) (hd0 : 0 ≤ d) : Bd A (a * d) := by
  refine bd_N (Rat.mul_nonneg h.1 hd0) (Rat.le_trans h.2 ?_)
  have := Rat.mul_le_mul_of_nonneg_left hd (Rat.mul_nonneg h.1 h.1)
  have e : a * d * (a * d) = a * a * (d * d) := by grind
  grind
theorem Le.bdd2 {A D : G} {a d : Rat} (h : Le A a (D * D)) (hd : N D ≤ d * d) (hd0 : 0 ≤ d) : Bd A (a * (d * d)) := by
  refine bd_N (Rat.mul_nonneg h.1 (Rat.mul_nonneg hd0 hd0)) (Rat.le_trans h.2 ?_)
  rw [N_mul]
  have h2 := mul_mono (N_nn D) (N_nn D) hd hd
  have := Rat.mul_le_mul_of_nonneg_left h2 (Rat.mul_nonneg h.1 h.1)
  have e : a * (d * d) * (a * (d * d)) = a * a * (d * d * (d * d)) := by grind
  grind
theorem halley_R {n i : Nat} {r : Nat → G} {D S T V S1 T1 : G} (h : NearV n i r D S T V S1 T1) (hn : n ≤ 4) (hn1 : 1 ≤ n) {z v s t : C} (hz : RC z (r i + u64)) (hZ : Le (r i + u64) (23/10) one_) (hv : RC v V) (hs : RC s S1) (ht : RC t T1) :
    ∃ vs a ss b vt d q w, Hal z v s t vs a ss b vt d q w ∧ ∃ W, RC w W ∧ N (W - r i) ≤ 9/1000 * (9/1000) := by
  obtain ⟨k1, k2, k3, k4, k5, k6⟩ := k_ok n (by omega) hn1
  have hND1 : 5/100 ≤ N D := N_ge h.low (by decide +kernel)
  have hND2 := of_le_one h.high
  obtain ⟨d, d1, d2, d3, d4⟩ := scale_of (x := N D) (by grind) 12 (Rat.le_trans hND2 (by decide +kernel))
  have d2' : d ≤ 820 := Rat.le_trans d2 (by decide +kernel)
  have d0 : 0 ≤ d := by grind
  have dd1 := mul_mono (show (0:Rat) ≤ 1/5 by decide +kernel) (show (0:Rat) ≤ 1/5 by decide +kernel) d1 d1
  have dd2 := mul_mono d0 d0 d2' d2'
  -- the sizes
  have hvD : Le (sc 64 V) (106/100) D := by
    have := ((h.v.mono (b := 6/100) k6).add (Le.self D)).mono (b := 106/100) (by decide +kernel)
    rwa [show sc 64 V - D + D = sc 64 V by ext <;> simp <;> grind] at this
  have hV : Le V (17/1000) D := by
    have := hvD.sc (k := 1/64) (by decide +kernel)
    rw [show sc (1/64) (sc 64 V) = V by ext <;> simp <;> grind] at this
    exact this.mono (by decide +kernel)
  have hS : Le S1 (11/10) D := (h.S1_low hn hn1).2.1
  have hsD : Le (S1 - D) (8/100) D := h.s'.mono (by grind)
  have hT : Le T1 (986/100) D := by
    have := ((h.t.add (h.S_.sc (k := 2) (by decide +kernel))).add (h.T_.sc (k := 1/64) (by decide +kernel))).mono (b := 986/100) (by grind)
    rwa [show T1 - (sc 2 S + sc (1/64) T) + sc 2 S + sc (1/64) T = T1 by ext <;> simp <;> grind] at this
  have hVS : Le (sc 64 V - S1) (14/100) D := by
    have := (h.v.sub h.s').mono (b := 14/100) (by
      have : ∀ n : Nat, n < 5 → 1 ≤ n → kv n + (kS n / 64 + 2/1000) ≤ 14/100 := by decide +kernel
      exact this n (by omega) hn1)
    rwa [show sc 64 V - D - (S1 - D) = sc 64 V - S1 by ext <;> simp <;> grind] at this
  have ty : tiny ≤ 1/100000 := by decide +kernel
  have hy : (1000000000000:Rat) ≤ huge := by decide +kernel
  have e4 : e24 = 1/16777216 := rfl
  have two : R single 1073741824 2 := chk_R (by decide +kernel)
  -- v s
  obtain ⟨vs, A1, a1, a2, a3⟩ := mulO_R hv hs (hV.bdd d3 d0) (hS.bdd d3 d0) (by grind) (by grind)
  have a4 := (abs_rel (β := 17/1000 * (11/10) * (4 * e24)) d4 d0 (by decide +kernel) (a3.mono (by grind))).mono (b := 1/1000000) (by decide +kernel)
  have hA1 : Le A1 (19/1000) (D * D) := by
    have := (a4.add (hV.mul hS)).mono (b := 19/1000) (by decide +kernel)
    rwa [show A1 - V * S1 + V * S1 = A1 by ext <;> simp <;> grind] at this
  have h2A : Le (sc 2 A1) (38/1000) (D * D) := (hA1.sc (k := 2) (by decide +kernel)).mono (by decide +kernel)
  obtain ⟨a, A2, b1, b2, b3⟩ := scaleO_R a2 two (h2A.bdd2 d3 d0) (by grind) (by grind)
  have b4 := (abs_rel (β := 38/1000 * e24) d4 d0 (by decide +kernel) (b3.mono (by grind))).mono (b := 1/1000000) (by decide +kernel)
  -- s s
  obtain ⟨ss', B1, c1', c2', c3'⟩ := mulO_R hs hs (hS.bdd d3 d0) (hS.bdd d3 d0) (by grind) (by grind)
  have c4 := (abs_rel (β := 11/10 * (11/10) * (4 * e24)) d4 d0 (by decide +kernel) (c3'.mono (by grind))).mono (b := 1/100000) (by decide +kernel)
  have hB1 : Le B1 (122/100) (D * D) := by
    have := (c4.add (hS.mul hS)).mono (b := 122/100) (by decide +kernel)
    rwa [show B1 - S1 * S1 + S1 * S1 = B1 by ext <;> simp <;> grind] at this
  have h2B : Le (sc 2 B1) (244/100) (D * D) := (hB1.sc (k := 2) (by decide +kernel)).mono (by decide +kernel)
  obtain ⟨b, B2, e1, e2, e3⟩ := scaleO_R c2' two (h2B.bdd2 d3 d0) (by grind) (by grind)
  have e5 := (abs_rel (β := 244/100 * e24) d4 d0 (by decide +kernel) (e3.mono (by grind))).mono (b := 1/100000) (by decide +kernel)
  have hB2 : Le B2 (245/100) (D * D) := by
    have := (e5.add h2B).mono (b := 245/100) (by decide +kernel)
    rwa [show B2 - sc 2 B1 + sc 2 B1 = B2 by ext <;> simp <;> grind] at this
  -- v t
  obtain ⟨vt, C1, f1, f2, f3⟩ := mulO_R hv ht (hV.bdd d3 d0) (hT.bdd d3 d0) (by grind) (by grind)
  have f4 := (abs_rel (β := 17/1000 * (986/100) * (4 * e24)) d4 d0 (by decide +kernel) (f3.mono (by grind))).mono (b := 1/1000000) (by decide +kernel)
  have hVT := (hV.mul hT).mono (b := 168/1000) (by decide +kernel)
  have hC1 : Le C1 (169/1000) (D * D) := by
    have := (f4.add hVT).mono (b := 169/1000) (by decide +kernel)
    rwa [show C1 - V * T1 + V * T1 = C1 by ext <;> simp <;> grind] at this
  -- the difference
  obtain ⟨dn, Dn, g1, g2, g3⟩ := minusO_R e2 f2 ((hB2.sub hC1).bdd2 d3 d0) (by grind) (by grind)
  have g4 := (abs_rel (β := (245/100 + 169/1000) * e24) d4 d0 (by decide +kernel) (g3.mono (by grind))).mono (b := 1/100000) (by decide +kernel)
  -- how the two stand to what they stand for
  have hA : Le (A2 - sc 2 (V * S1)) (3/1000000) (D * D) := by
    have := (b4.add (a4.sc (k := 2) (by decide +kernel))).mono (b := 3/1000000) (by decide +kernel)
    rwa [show A2 - sc 2 A1 + sc 2 (A1 - V * S1) = A2 - sc 2 (V * S1) by ext <;> simp <;> grind] at this
  have hD : Le (Dn - (sc 2 (S1 * S1) - V * T1)) (5/100000) (D * D) := by
    have := (((g4.add e5).add (c4.sc (k := 2) (by decide +kernel))).sub f4).mono (b := 5/100000) (by decide +kernel)
    rwa [show Dn - (B2 - C1) + (B2 - sc 2 B1) + sc 2 (B1 - S1 * S1) - (C1 - V * T1) = Dn - (sc 2 (S1 * S1) - V * T1) by ext <;> simp <;> grind] at this
  have hDn : Le (Dn - sc 2 (D * D)) (53/100) (D * D) := by
    have h1 := ((hsD.mul hS).add ((Le.self D).mul hsD)).sc (k := 2) (by decide +kernel)
    rw [show sc 2 ((S1 - D) * S1 + D * (S1 - D)) = sc 2 (S1 * S1) - sc 2 (D * D) by ext <;> simp <;> grind] at h1
    have := ((hD.add h1).sub hVT).mono (b := 53/100) (by decide +kernel)
    rwa [show Dn - (sc 2 (S1 * S1) - V * T1) + (sc 2 (S1 * S1) - sc 2 (D * D)) - V * T1 = Dn - sc 2 (D * D) by ext <;> simp <;> grind] at this
  have hDn2 : Le (sc (1/2) Dn - D * D) (265/1000) (D * D) := by
    have := (hDn.sc (k := 1/2) (by decide +kernel)).mono (b := 265/1000) (by decide +kernel)
    rwa [show sc (1/2) (Dn - sc 2 (D * D)) = sc (1/2) Dn - D * D by ext <;> simp <;> grind] at this
  have hinv : Le (D * D) (1361/1000) (sc (1/2) Dn) := hDn2.inv (by decide +kernel) (by decide +kernel) (by decide +kernel)
  have hinv2 : Le (D * D) (681/1000) Dn := by
    refine ⟨by decide +kernel, Rat.le_trans hinv.2 ?_⟩
    have e : N (sc (1/2) Dn) = 1/4 * N Dn := by unfold N; simp only [sc_x, sc_y]; grind
    rw [e]
    have := N_nn Dn
    grind
  have hNDD : 5/100 * (5/100) ≤ N (D * D) := by rw [N_mul]; exact mul_mono (by decide +kernel) (by decide +kernel) hND1 hND1
  have hNDn : 1/1000 ≤ N Dn := by have := hinv2.2; grind
  have hNDn2 : N Dn ≤ 1000000000000000 := by
    have h1 := (hDn.add ((Le.self (D * D)).sc (k := 2) (by decide +kernel))).mono (b := 3) (by decide +kernel)
    rw [show Dn - sc 2 (D * D) + sc 2 (D * D) = Dn by ext <;> simp <;> grind] at h1
    have h2 := h.high.mul h.high
    rw [mul_one] at h2
    exact Rat.le_trans (of_le_one (h1.trans h2)) (by decide +kernel)
  obtain ⟨Q, hQ⟩ := gdiv A2 (show N Dn ≠ 0 by grind)
  have hrel : Le (sc 64 Q - one_) (57/100) one_ := by
    have h1 := (((hS.mul hVS).sc (k := 2) (by decide +kernel)).add hVT)
    have h2 := ((h1.add (hA.sc (k := 64) (by decide +kernel))).sub hD).mono (b := 48/100) (by decide +kernel)
    rw [show sc 2 (S1 * (sc 64 V - S1)) + V * T1 + sc 64 (A2 - sc 2 (V * S1)) - (Dn - (sc 2 (S1 * S1) - V * T1)) = (sc 64 Q - one_) * Dn by
      rw [← hQ]; unfold one_; ext <;> simp <;> grind] at h2
    exact ((h2.trans hinv2).cancel (by grind)).mono (by decide +kernel)
  have hQb : Bd Q 1 := by
    have h1 := (hrel.add (Le.self one_)).sc (k := 1/64) (by decide +kernel)
    rw [show sc (1/64) (sc 64 Q - one_ + one_) = Q by unfold one_; ext <;> simp <;> grind] at h1
    exact (h1.mono (b := 1) (by decide +kernel)).bd
  obtain ⟨q, Vq, q1, q2, q3⟩ := quot_R b2 g2 hQ hQb (by decide +kernel) (by decide +kernel) (by grind) hNDn2
  obtain ⟨w, W, w1, w2, w3⟩ := sub_R hz hZ q2 (q3.mono (by decide +kernel)) hrel
  exact ⟨vs, a, ss', b, vt, dn, q, w, ⟨a1, b1, c1', e1, f1, g1, q1, q2.fin, w1, w2.fin⟩, W, w2, w3⟩
end Go.Proofs.YtlhdgbiaiacpfaaGreat
