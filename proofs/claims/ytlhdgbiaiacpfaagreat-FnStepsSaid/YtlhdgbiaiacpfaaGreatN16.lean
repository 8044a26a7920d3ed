/- Laguerre's step near a root. -/
import Derived.Test.YtlhdgbiaiacpfaaGreatN15
namespace Go.Proofs.YtlhdgbiaiacpfaaGreat
open Go.RowKit Num Ieee
open G
/-- A rational number whose square is a little below. -/
theorem near_sq {x : Rat} (h1 : 1 ≤ x) : ∀ K : Nat, x ≤ (103/100 : Rat) ^ K * (103/100) ^ K → ∃ b : Rat, 1 ≤ b ∧ b * b ≤ x ∧ x ≤ b * b * (10609/10000) := by
  intro K
  induction K with
  | zero =>
    intro h
    have : (103/100 : Rat) ^ 0 * (103/100) ^ 0 = 1 := by decide +kernel
    exact ⟨1, by grind, by grind, by grind⟩
  | succ K ih =>
    intro h
    by_cases hk : x ≤ (103/100 : Rat) ^ K * (103/100) ^ K
    · exact ih hk
    · have e : (103/100 : Rat) ^ (K + 1) = (103/100) ^ K * (103/100) := Rat.pow_succ _ _
      rw [e] at h
      have hge : ∀ K : Nat, (1:Rat) ≤ (103/100) ^ K := by
        intro K
        induction K with
        | zero => decide +kernel
        | succ K ih => rw [Rat.pow_succ]; grind
      have := hge K
      generalize (103/100 : Rat) ^ K = g at *
      exact ⟨g, this, by grind, by grind⟩
theorem near_sq' {x : Rat} (h1 : 1 ≤ x) (h2 : x ≤ 1000000) : ∃ b : Rat, 1 ≤ b ∧ b * b ≤ x ∧ x ≤ b * b * (10609/10000) := by
  refine near_sq h1 240 (Rat.le_trans h2 ?_)
  decide +kernel
/-- The root of nothing. -/
theorem root_zero {z : C} (h : RC z z0) : ∃ r, (∃ an hn yn ph l ly sl rt, RootIs z r an hn yn ph l ly sl rt) ∧ RC r z0 := by
  obtain ⟨ph, f0, f, g, neg, q, yc, fc, c, fs, s, a, b, P, d1, d2, d3, d4, d5⟩ := phasor_small (y := 0) (t := 0) zero64_R (by unfold W64; decide) (by unfold Ab; grind)
  have hsc : sc 0 P = z0 := by unfold z0; ext <;> simp
  obtain ⟨r, R1, r1, r2, r3⟩ := scaleO_R d2 R_00 (B := 1) (by rw [hsc]; exact ⟨Ab.zero (by grind), Ab.zero (by grind)⟩) (by decide +kernel) (by decide +kernel)
  have hz : R1 = z0 := by
    obtain ⟨a, x, a1, a2, a3⟩ := mul_s d2.1 R_00 (B := 1) (by rw [Rat.mul_zero]; exact Ab.zero (by grind)) (by decide +kernel)
    obtain ⟨b, y, b1, b2, b3⟩ := mul_s d2.2 R_00 (B := 1) (by rw [Rat.mul_zero]; exact Ab.zero (by grind)) (by decide +kernel)
    rw [Rat.mul_zero] at a3 b3
    have ex : x = 0 := by have := a3.sgn; grind
    have ey : y = 0 := by have := b3.sgn; grind
    subst ex ey
    have e : (a, b) = r := by
      have : scaleO ph 0 = some (a, b) := by simp [scaleO, show mul32 ph.1 0 = some a from a1, show mul32 ph.2 0 = some b from b1]
      exact Option.some.inj (this.symm.trans r1)
    subst e
    exact G.ext (R_inj r2.1 a2) (R_inj r2.2 b2)
  subst hz
  have hzi : ZeroIs z := by
    obtain ⟨a, a1, a2⟩ := wid_R h.1
    obtain ⟨b, b1, b2⟩ := wid_R h.2
    refine ⟨a, b, a1, b1, self64 a2, self64 b2, ?_, ?_⟩
    · rw [show FloatKind.f64.format.order a 0 = double.order a 0 from rfl, order_eq a2 zero64_R]; simp [z0]
    · rw [show FloatKind.f64.format.order b 0 = double.order b 0 from rfl, order_eq b2 zero64_R]; simp [z0]
  refine ⟨r, ⟨0, 0, 0, ph, 0, 0, 0, 0, .inl ⟨Fin_R h.2, Fin_R h.1, ?_, ?_, rfl⟩, .inl ⟨hzi, rfl⟩, by decide +kernel, by decide +kernel, ⟨f0, f, g, neg, q, yc, fc, c, fs, s, a, b, d1⟩, longO_zero h, by decide +kernel, by decide +kernel, by decide +kernel, r1⟩, r2⟩
  · rw [show FloatKind.f32.format.order z.1 0 = single.order z.1 0 from rfl, order_eq h.1 R_00]; simp [z0]
  · rw [show FloatKind.f32.format.order z.2 0 = single.order z.2 0 from rfl, order_eq h.2 R_00]; simp [z0]
/-- What the terms of Laguerre's root are off, at most. -/
def kK (n : Nat) : Rat :=
  2 * (kS n / 64) + (ri n - 1) * (kS n / 64 * (kS n / 64 + 2/1000 + kv n) + (2/1000 + kv n) * (2 + kS n / 64 + 2/1000 + kv n)) + ri n * ((kT n / 4096 + 1/64000) * (1 + kv n) + 2 * (kS n / 64) * kv n)
theorem kK_ok : ∀ n : Nat, n < 5 → 2 ≤ n → kK n * (1 / (1 - kv n)) * (1 / (1 - kv n)) ≤ (ri n - 1) * (24/100) ∧ 1 ≤ 1 / (1 - kv n) * (1 - kv n) ∧ 0 ≤ 1 / (1 - kv n) := by decide +kernel
theorem lag_alg {D S T Y S1 T1 : G} {s κ t ν : Rat} (h1 : 1 ≤ ν) (hY : Le (Y - D) κ D) (hs : Le (S1 - (D + sc (1/64) S)) (2/1000) D) (ht : Le (T1 - (sc 2 S + sc (1/64) T)) (1/1000) D) (hS : Le S s D) (hT : Le T t D) :
    Le (sc (ν - 1) (S1 * S1 - Y * Y) - sc ν (sc (1/64) T1 * Y))
      (2 * (s / 64) + (ν - 1) * (s / 64 * (s / 64 + 2/1000 + κ) + (2/1000 + κ) * (2 + s / 64 + 2/1000 + κ)) + ν * ((t / 4096 + 1/64000) * (1 + κ) + 2 * (s / 64) * κ)) (D * D) := by
  obtain ⟨e1, he1⟩ : ∃ e1, e1 = Y - D := ⟨_, rfl⟩
  obtain ⟨e2, he2⟩ : ∃ e2, e2 = S1 - (D + sc (1/64) S) := ⟨_, rfl⟩
  obtain ⟨e3, he3⟩ : ∃ e3, e3 = T1 - (sc 2 S + sc (1/64) T) := ⟨_, rfl⟩
  rw [← he1] at hY
  rw [← he2] at hs
  rw [← he3] at ht
  obtain ⟨σ, hσ⟩ : ∃ σ, σ = sc (1/64) S := ⟨_, rfl⟩
  have hσ1 : Le σ (s / 64) D := by rw [hσ]; exact (hS.sc (k := 1/64) (by decide +kernel)).mono (by grind)
  obtain ⟨τ, hτ⟩ : ∃ τ, τ = sc (1/4096) T + sc (1/64) e3 := ⟨_, rfl⟩
  have hτ1 : Le τ (t / 4096 + 1/64000) D := by
    rw [hτ]
    exact ((hT.sc (k := 1/4096) (by decide +kernel)).add (ht.sc (k := 1/64) (by decide +kernel))).mono (by grind)
  have hY2 : Le Y (1 + κ) D := by
    have := (Le.self D).add hY
    rwa [show D + e1 = Y by rw [he1]; ext <;> simp <;> grind] at this
  have hP : Le (σ + e2 + e1) (s / 64 + 2/1000 + κ) D := (hσ1.add hs).add hY
  have hQ : Le (S1 + Y) (2 + s / 64 + 2/1000 + κ) D := by
    have := (((Le.self D).add (Le.self D)).add hP).mono (b := 2 + s / 64 + 2/1000 + κ) (by grind)
    rwa [show D + D + (σ + e2 + e1) = S1 + Y by rw [he1, he2, hσ]; ext <;> simp <;> grind] at this
  have t1 := (((Le.self D).mul hσ1).sc (k := 2) (by decide +kernel)).neg
  have t2 := ((hσ1.mul hP).add ((hs.sub hY).mul hQ)).sc (k := ν - 1) (by grind)
  have t3 := ((hτ1.mul hY2).add ((hσ1.mul hY).sc (k := 2) (by decide +kernel))).sc (k := ν) (by grind)
  have := (t1.add t2).sub t3
  have e : -(sc 2 (D * σ)) + sc (ν - 1) (σ * (σ + e2 + e1) + (e2 - e1) * (S1 + Y)) - sc ν (τ * Y + sc 2 (σ * e1)) = sc (ν - 1) (S1 * S1 - Y * Y) - sc ν (sc (1/64) T1 * Y) := by
    have eS : S1 = D + σ + e2 := by rw [he2, hσ]; ext <;> simp <;> grind
    have eY : Y = D + e1 := by rw [he1]; ext <;> simp <;> grind
    have eT : sc (1/64) T1 = sc 2 σ + τ := by rw [hτ, he3, hσ]; ext <;> simp <;> grind
    rw [eT, eS, eY]
    clear this t1 t2 t3 hQ hP hY2 hτ1 hσ1 hY hs ht hS hT he1 he2 he3 hσ hτ eS eY eT
    ext <;> simp <;> grind
  rw [e] at this
  exact this.mono (by grind)
theorem ri_vals : ri 1 = 1 ∧ ri 2 = 2 ∧ ri 3 = 3 ∧ ri 4 = 4 := by decide +kernel
/-- What is under Laguerre's root. -/
theorem lag_under {n i : Nat} {r : Nat → G} {D S T V S1 T1 Qa Qc : G} (h : NearV n i r D S T V S1 T1) (hn : n ≤ 4) (hn1 : 2 ≤ n) (ha : Qa * V = S1) (hc : Qc * V = T1) :
    Le (sc (ri n - 1) (sc (ri n) (Qa * Qa - Qc) - Qa * Qa) - ⟨4096 * ((ri n - 1) * (ri n - 1)), 0⟩) (4096 * ((ri n - 1) * (ri n - 1)) * (24/100)) one_ := by
  obtain ⟨k1, k2, k3⟩ := kK_ok n (by omega) hn1
  have hν : 2 ≤ ri n := by
    have : ((2 : Nat) : Rat) ≤ ((n : Nat) : Rat) := by exact_mod_cast hn1
    exact this
  have hk := lag_alg (ν := ri n) (by grind) h.v h.s h.t h.S_ h.T_
  have hinv : Le D (1 / (1 - kv n)) (sc 64 V) := h.v.inv (by have := (k_ok n (by omega) (by omega)).2.2.2.2.2; grind) k3 k2
  have hYpos : 0 < N (sc 64 V) := N_pos (h.low.trans hinv)
  have hdd := hinv.mul hinv
  have hk2 := hk.trans hdd
  have e : sc (ri n - 1) (S1 * S1 - sc 64 V * sc 64 V) - sc (ri n) (sc (1/64) T1 * sc 64 V) =
      (sc (1/4096) (sc (ri n) (Qa * Qa - Qc) - Qa * Qa) - ⟨ri n - 1, 0⟩) * (sc 64 V * sc 64 V) := by
    rw [← ha, ← hc]
    generalize ri n = ν
    clear hk hinv hYpos hdd hk2 k1 h ha hc
    ext <;> simp <;> grind
  rw [e] at hk2
  have hYY : 0 < N (sc 64 V * sc 64 V) := by rw [N_mul]; exact Rat.mul_pos hYpos hYpos
  have h3 := hk2.cancel hYY
  have h4 := (h3.mono (b := (ri n - 1) * (24/100)) (by unfold kK at k1; grind)).sc (k := 4096 * (ri n - 1)) (by grind)
  have e2 : sc (4096 * (ri n - 1)) (sc (1/4096) (sc (ri n) (Qa * Qa - Qc) - Qa * Qa) - ⟨ri n - 1, 0⟩) = sc (ri n - 1) (sc (ri n) (Qa * Qa - Qc) - Qa * Qa) - ⟨4096 * ((ri n - 1) * (ri n - 1)), 0⟩ := by
    generalize ri n = ν
    clear h3 h4 hYY hk2 e hk hdd hYpos hinv k1 hν
    ext <;> simp <;> grind
  rw [e2] at h4
  exact h4.mono (by grind)
/-- The quotients of Laguerre's step. -/
theorem lag_quots {n i : Nat} {r : Nat → G} {D S T V S1 T1 : G} (h : NearV n i r D S T V S1 T1) (hn : n ≤ 4) (hn1 : 1 ≤ n) :
    1/1000000 ≤ N V ∧ N V ≤ 1000000 ∧ ∃ Qa Qc, Qa * V = S1 ∧ Qc * V = T1 ∧ Le (Qa - ⟨64, 0⟩) (64 * (15/100)) one_ ∧ Le Qc 700 one_ ∧ (n = 1 → Qc = z0) := by
  obtain ⟨k1, k2, k3, k4, k5, k6⟩ := k_ok n (by omega) hn1
  have hv := h.v.mono (b := 6/100) k6
  have hinv : Le D (107/100) (sc 64 V) := hv.inv (by decide +kernel) (by decide +kernel) (by decide +kernel)
  have hYl := h.low.trans hinv
  have hYpos : 0 < N (sc 64 V) := N_pos hYl
  have hY1 : 1/100 ≤ N (sc 64 V) := N_ge hYl (by decide +kernel)
  have hYD : Le (sc 64 V) (106/100) D := by
    have := (hv.add (Le.self D)).mono (b := 106/100) (by decide +kernel)
    rwa [show sc 64 V - D + D = sc 64 V by ext <;> simp <;> grind] at this
  have hY2 : N (sc 64 V) ≤ 1000000 := Rat.le_trans (of_le_one (hYD.trans h.high)) (by decide +kernel)
  have eN : N (sc 64 V) = 4096 * N V := by unfold N; simp only [sc_x, sc_y]; grind
  rw [eN] at hY1 hY2 hYpos
  obtain ⟨Qa, ha⟩ := gdiv S1 (show N V ≠ 0 by grind)
  obtain ⟨Qc, hc⟩ := gdiv T1 (show N V ≠ 0 by grind)
  refine ⟨by grind, by grind, Qa, Qc, ha, hc, ?_, ?_, ?_⟩
  · have h1 := ((h.s'.sub h.v).mono (b := 139/1000) (by
      have : ∀ n : Nat, n < 5 → 1 ≤ n → kS n / 64 + 2/1000 + kv n ≤ 139/1000 := by decide +kernel
      exact this n (by omega) hn1)).trans hinv
    have e : S1 - D - (sc 64 V - D) = (sc (1/64) Qa - one_) * sc 64 V := by rw [← ha]; unfold one_; ext <;> simp <;> grind
    rw [e] at h1
    have h2 := ((h1.cancel (by rw [eN]; exact hYpos)).sc (k := 64) (by decide +kernel)).mono (b := 64 * (15/100)) (by decide +kernel)
    rwa [show sc 64 (sc (1/64) Qa - one_) = Qa - ⟨64, 0⟩ by unfold one_; ext <;> simp <;> grind] at h2
  · have h1 : Le T1 (986/100) D := by
      have := ((h.t.add (h.S_.sc (k := 2) (by decide +kernel))).add (h.T_.sc (k := 1/64) (by decide +kernel))).mono (b := 986/100) (by grind)
      rwa [show T1 - (sc 2 S + sc (1/64) T) + sc 2 S + sc (1/64) T = T1 by ext <;> simp <;> grind] at this
    have h2 := (h1.trans hinv)
    have e : T1 = sc (1/64) Qc * sc 64 V := by rw [← hc]; ext <;> simp <;> grind
    rw [e] at h2
    have h3 := (h2.cancel (by rw [eN]; exact hYpos)).sc (k := 64) (by decide +kernel)
    rw [show sc 64 (sc (1/64) Qc) = Qc by ext <;> simp <;> grind] at h3
    exact h3.mono (by decide +kernel)
  · intro e1
    have e := h.t0 e1
    have hz : N Qc * N V = 0 := by rw [← N_mul, hc, e]; unfold N z0; grind
    have : N Qc = 0 := by grind
    exact N_zero this
end Go.Proofs.YtlhdgbiaiacpfaaGreat
