/- The angle behind a tangent, as a short series, and its addition. No condition. -/
import Derived.Test.YtlhdgbiaiacpfaaN13
namespace Go.Proofs.Ytlhdgbiaiacpfaa
open Go.RowKit Num Ieee
open G

/-! The angle behind a tangent, as a short series, and its addition. No condition. -/
/-- The angle behind a small tangent. -/
def T (t : Rat) : Rat := t - t * t * t / 3 + t * t * t * t * t / 5
theorem cube {s p : Rat} (h : s * (1 - p) = 1) : s * s * s = 1 + 3 * p + p * p * (s * (s * s + 2 * s + 3)) := by grind
theorem fifth {s p : Rat} (h : s * (1 - p) = 1) : s * s * s * s * s = 1 + p * (s * (s * s * s * s + s * s * s + s * s + s + 1)) := by grind
theorem first {s p : Rat} (h : s * (1 - p) = 1) : s = 1 + p + p * p + p * p * p * s := by grind
/-- What the addition is off. -/
def dT (U P : Rat) : Rat := U * (P * P * P * (11/10)) + U * U * U * (P * P * (5/2)) + U * U * U * U * U * (P * (13/10))
theorem T_parts {a b u p w s : Rat} (hu : u = a + b) (hp : p = a * b) (hs : s * (1 - p) = 1) (hw : w = u * s) :
    T w - T a - T b = u * (p * p * p * s) - u * u * u * (p * p * (s * (s * s + 2 * s + 3) / 3)) + u * u * u * u * u * (p * (s * (s * s * s * s + s * s * s + s * s + s + 1) / 5)) := by
  have h3 := cube hs
  have h5 := fifth hs
  have h1 := first hs
  have e3 : a * a * a + b * b * b = u * u * u - 3 * (p * u) := by subst hu hp; grind
  have e5 : a * a * a * a * a + b * b * b * b * b = u * u * u * u * u - 5 * (p * (u * u * u)) + 5 * (p * p * u) := by subst hu hp; grind
  have w3 : w * w * w = u * u * u * (s * s * s) := by subst hw; grind
  have w5 : w * w * w * w * w = u * u * u * u * u * (s * s * s * s * s) := by subst hw; grind
  have eT : T w - T a - T b = w - (a + b) - (w * w * w - (a * a * a + b * b * b)) / 3 + (w * w * w * w * w - (a * a * a * a * a + b * b * b * b * b)) / 5 := by unfold T; grind
  obtain ⟨k3, hk3⟩ : ∃ k, k = s * (s * s + 2 * s + 3) := ⟨_, rfl⟩
  obtain ⟨k5, hk5⟩ : ∃ k, k = s * (s * s * s * s + s * s * s + s * s + s + 1) := ⟨_, rfl⟩
  rw [← hk3] at h3 ⊢
  rw [← hk5] at h5 ⊢
  rw [eT, e5, w5, h5, e3, w3, h3, hw, ← hu]
  have hus : u * s = u + u * p + u * (p * p) + u * (p * p * p * s) := by
    have : u * s = u * (1 + p + p * p + p * p * p * s) := by rw [← h1]
    rw [this]; grind
  rw [hus]
  clear h3 h5 h1 e3 e5 w3 w5 eT hk3 hk5 hs hw hu hp hus
  grind
theorem s_bound {s p : Rat} (h : s * (1 - p) = 1) (hp : Ab p (1/40)) : Ab (s - 1) (26/1000) := by
  have h1 : 0 < 1 - p := by unfold Ab at hp; grind
  have hs0 : 0 ≤ s := le_of_mul h1 (by rw [h]; grind)
  have hs : s ≤ 40/39 := le_of_mul h1 (by rw [h]; unfold Ab at hp; grind)
  have h2 : s - 1 = p * s := by grind
  rw [h2]
  exact (hp.mul (show Ab s (40/39) by unfold Ab; grind)).mono (by decide +kernel)
theorem T_add {a b u p w s U P : Rat} (hu : u = a + b) (hp : p = a * b) (hs : s * (1 - p) = 1) (hw : w = u * s) (hU : Ab u U) (hP : Ab p P) (hP1 : P ≤ 1/40) :
    Ab (T w - T a - T b) (dT U P) := by
  have hs1 := s_bound hs (hP.mono hP1)
  have s0 : Ab s (1026/1000) := by unfold Ab at *; grind
  rw [T_parts hu hp hs hw]
  have s2 := s0.mul s0
  have s3 := s2.mul s0
  have s4 := s3.mul s0
  have k3 : Ab (s * (s * s + 2 * s + 3) / 3) (5/2) := by
    have := s3.add ((s2.add s2).add ((s0.add s0).add s0))
    have e : s * (s * s + 2 * s + 3) / 3 = (s * s * s + (s * s + s * s + (s + s + s))) / 3 := by grind
    rw [e]
    have h : (1026/1000 * (1026/1000) * (1026/1000) + (1026/1000 * (1026/1000) + 1026/1000 * (1026/1000) + (1026/1000 + 1026/1000 + 1026/1000)) : Rat) ≤ 15/2 := by decide +kernel
    have := this.mono h
    unfold Ab at *
    grind
  have k5 : Ab (s * (s * s * s * s + s * s * s + s * s + s + 1) / 5) (13/10) := by
    have := (s4.mul s0).add (s4.add (s3.add (s2.add s0)))
    have e : s * (s * s * s * s + s * s * s + s * s + s + 1) / 5 = (s * s * s * s * s + (s * s * s * s + (s * s * s + (s * s + s)))) / 5 := by grind
    rw [e]
    have h : (1026/1000 * (1026/1000) * (1026/1000) * (1026/1000) * (1026/1000) + (1026/1000 * (1026/1000) * (1026/1000) * (1026/1000) + (1026/1000 * (1026/1000) * (1026/1000) + (1026/1000 * (1026/1000) + 1026/1000))) : Rat) ≤ 13/2 := by decide +kernel
    have := this.mono h
    unfold Ab at *
    grind
  have k1 : Ab s (11/10) := s0.mono (by decide +kernel)
  have p2 := hP.mul hP
  have p3 := p2.mul hP
  have u3 := (hU.mul hU).mul hU
  have u5 := (u3.mul hU).mul hU
  exact ((hU.mul (p3.mul k1)).sub (u3.mul (p2.mul k3))).add (u5.mul (hP.mul k5))
/-- A small change. -/
theorem T_near {a b e : Rat} (ha : Ab a (3/10)) (hb : Ab b (3/10)) (h : Ab (a - b) e) : Ab (T a - T b) (e * (11/10)) := by
  have e1 : T a - T b = (a - b) * (1 - (a * a + (a * b + b * b)) / 3 + (a * a * (a * a) + (a * a * (a * b) + (a * b * (a * b) + (a * b * (b * b) + b * b * (b * b))))) / 5) := by unfold T; grind
  rw [e1]
  refine h.mul ?_
  have aa := ha.mul ha
  have ab := ha.mul hb
  have bb := hb.mul hb
  have q1 := aa.add (ab.add bb)
  have q2 := (aa.mul aa).add ((aa.mul ab).add ((ab.mul ab).add ((ab.mul bb).add (bb.mul bb))))
  have n1 : (3/10 * (3/10) + (3/10 * (3/10) + 3/10 * (3/10)) : Rat) ≤ 27/100 := by decide +kernel
  have n2 : (3/10 * (3/10) * (3/10 * (3/10)) + (3/10 * (3/10) * (3/10 * (3/10)) + (3/10 * (3/10) * (3/10 * (3/10)) + (3/10 * (3/10) * (3/10 * (3/10)) + 3/10 * (3/10) * (3/10 * (3/10))))) : Rat) ≤ 5/100 := by decide +kernel
  have q1 := q1.mono n1
  have q2 := q2.mono n2
  generalize a * a + (a * b + b * b) = A at *
  generalize a * a * (a * a) + (a * a * (a * b) + (a * b * (a * b) + (a * b * (b * b) + b * b * (b * b)))) = B at *
  clear aa ab bb n1 n2 e1 h ha hb
  unfold Ab at *
  constructor
  · grind
  · grind

/-! The program's angle: what its parts come to. No condition but the sizes. -/
/-- Half of an angle's tangent, more exactly. -/
theorem angT_P {t : Nat} {x : Rat} (hx : R double t x) (h0 : 0 ≤ x) (h1 : x ≤ 101/100) :
    ∃ r v, angT t = some r ∧ R double r v ∧ 0 ≤ v ∧ v ≤ x * (51/100) + 1/1000000000 ∧ Ab (2 * v - x * (1 - v * v)) (1/10000000) := by
  have he : e53 ≤ 1/10000000000000 ∧ 0 ≤ e53 := by decide +kernel
  have hl : lo64 ≤ 1 := by decide +kernel
  have hh : 4 ≤ hi64 := by decide +kernel
  have hxx : Ab (x * x) (11/10) := by
    have := (show Ab x (101/100) by unfold Ab; grind).mul (show Ab x (101/100) by unfold Ab; grind)
    exact this.mono (by decide +kernel)
  obtain ⟨tt, v1, a1, a2, a3, a4, _⟩ := mul64_R hx hx hxx (by grind) (by grind)
  have q0 := sq_nn x
  have a5 := a4 q0
  have b0 : Ab (1 + v1) 3 := by unfold Ab at *; grind
  obtain ⟨s, v2, b1, b2, b3, _, _⟩ := add64_R one64_R a2 b0 (by grind) (by grind)
  have b4 : 99/100 ≤ v2 ∧ v2 ≤ 22/10 := by unfold Ab at *; grind
  obtain ⟨r, v3, c1, c2, c3, c4, c5⟩ := sqrt64_R b2 (by grind) (by grind)
  have c6 : 99/100 ≤ v3 := le_of_sq c3 (by grind)
  have c7 : v3 ≤ 2 := le_of_sq (by decide +kernel) (by grind)
  have d0 : Ab (1 + v3) 3 := by unfold Ab; grind
  obtain ⟨d, v4, d1, d2, d3, _, _⟩ := add64_R one64_R c2 d0 (by grind) (by grind)
  have d4 : 198/100 ≤ v4 ∧ v4 ≤ 4 := by unfold Ab at *; grind
  have hv4 : (0:Rat) < v4 := by grind
  obtain ⟨k, hk⟩ : ∃ k : Rat, k * v4 = 1 := ⟨1 / v4, div_mul_self (by grind)⟩
  have k0 : 0 ≤ k := le_of_mul hv4 (by grind)
  have k1 : k ≤ 506/1000 := le_of_mul hv4 (by grind)
  obtain ⟨q, hq⟩ : ∃ q : Rat, q = x * k := ⟨_, rfl⟩
  have hqx : q * v4 = x := by rw [hq]; grind
  have q1 : 0 ≤ q := by rw [hq]; exact Rat.mul_nonneg h0 k0
  have q2 : q ≤ x * (506/1000) := by rw [hq]; exact Rat.mul_le_mul_of_nonneg_left k1 h0
  obtain ⟨w, v, e1, e2, e3, _⟩ := div64_R (B := 1) hx d2 (by grind) hqx (by unfold Ab; grind) hl (by grind)
  have hn := div64_nn hx d2 h0 hv4 (by
    have := Rat.mul_le_mul_of_nonneg_left hh (show 0 ≤ v4 by grind)
    grind) e1 e2
  refine ⟨w, v, by simp [angT, a1, b1, show sqrt64 s = some r from c1, d1, e1], e2, hn, ?_, ?_⟩
  · unfold Ab at e3
    grind
  · -- s = v4 - 1: its square is near to 1 + x x
    obtain ⟨η, hη⟩ : ∃ η, η = 1 + x * x - (v4 - 1) * (v4 - 1) := ⟨_, rfl⟩
    have hη1 : Ab η (1/20000000) := by
      obtain ⟨ε, hε⟩ : ∃ ε, v4 = 1 + v3 + ε := ⟨v4 - (1 + v3), by grind⟩
      have hε1 : Ab ε (1/1000000000000) := by
        have : v4 - (1 + v3) = ε := by grind
        rw [this] at d3
        exact d3.mono (by grind)
      have z1 := (show Ab v3 2 by unfold Ab; grind).mul hε1
      have z2 := hε1.mul hε1
      have : (v4 - 1) * (v4 - 1) = v3 * v3 + 2 * (v3 * ε) + ε * ε := by rw [hε]; grind
      rw [hη, this]
      clear hη this hk hq hqx hε d1 d2 d3 e1 e2 e3 c1 c2 a2 b2 hx
      generalize v3 * v3 = A at *
      generalize v3 * ε = B at *
      generalize ε * ε = D at *
      generalize x * x = E at *
      unfold Ab at *
      constructor <;> grind
    have e4 : 2 * q - x * (1 - q * q) = x * (k * k) * η := by rw [hη, hq]; grind
    have e5 : Ab (2 * q - x * (1 - q * q)) (1/50000000) := by
      rw [e4]
      have := ((show Ab x (101/100) by unfold Ab; grind).mul ((show Ab k (506/1000) by unfold Ab; grind).mul (show Ab k (506/1000) by unfold Ab; grind))).mul hη1
      exact this.mono (by decide +kernel)
    obtain ⟨δ, hδ⟩ : ∃ δ, v = q + δ := ⟨v - q, by grind⟩
    have hδ1 : Ab δ (1/1000000000000) := by
      have : v - q = δ := by grind
      rw [this] at e3
      exact e3.mono (by grind)
    have hq3 : Ab q 1 := by unfold Ab; grind
    have z1 := (show Ab x (101/100) by unfold Ab; grind).mul (hq3.mul hδ1)
    have z2 := (show Ab x (101/100) by unfold Ab; grind).mul (hδ1.mul hδ1)
    have : 2 * v - x * (1 - v * v) = (2 * q - x * (1 - q * q)) + 2 * δ + 2 * (x * (q * δ)) + x * (δ * δ) := by rw [hδ]; grind
    rw [this]
    clear this hδ e4 hη hk hq hqx d1 d2 d3 e1 e2 e3 c1 c2 a2 b2 hx hη1
    generalize 2 * q - x * (1 - q * q) = A at *
    generalize x * (q * δ) = B at *
    generalize x * (δ * δ) = D at *
    unfold Ab at *
    constructor <;> grind
/-- The series of a half. -/
theorem T_half {x v U P : Rat} (h0 : 0 ≤ v) (h1 : 2 * v ≤ U) (h2 : v * v ≤ P) (hP : P ≤ 1/40) (hx : Ab x (3/10)) (hU : U ≤ 28/100) (h : Ab (2 * v - x * (1 - v * v)) (1/10000000)) :
    Ab (T x - 2 * T v) (dT U P + 1/8000000) := by
  have hv2 := sq_nn v
  have hpos : 0 < 1 - v * v := by grind
  obtain ⟨s, hs⟩ : ∃ s : Rat, s * (1 - v * v) = 1 := ⟨1 / (1 - v * v), div_mul_self (by grind)⟩
  have hP' : Ab (v * v) P := by unfold Ab; grind
  have s1 := s_bound hs (hP'.mono hP)
  obtain ⟨w, hw⟩ : ∃ w, w = (v + v) * s := ⟨_, rfl⟩
  have k := T_add (a := v) (b := v) rfl rfl hs hw (show Ab (v + v) U by unfold Ab; grind) hP' hP
  have hs0 : Ab s (1026/1000) := by unfold Ab at *; grind
  have hwx : x - w = -((2 * v - x * (1 - v * v)) * s) := by
    have : x = x * (s * (1 - v * v)) := by rw [hs]; grind
    rw [hw]; grind
  have hd : Ab (x - w) (1/10000000 * (1026/1000)) := by rw [hwx]; exact (h.mul hs0).neg
  have hwb : Ab w (3/10) := by
    rw [hw]
    have := (show Ab (v + v) (28/100) by unfold Ab; grind).mul hs0
    exact this.mono (by decide +kernel)
  have l := T_near hx hwb hd
  clear hwx hd hwb hw hs s1 hs0 h hP'
  have e : T x - 2 * T v = (T w - T v - T v) + (T x - T w) := by grind
  rw [e]
  exact (k.add l).mono (by
    have : (1/10000000 * (1026/1000) * (11/10) : Rat) ≤ 1/8000000 := by decide +kernel
    grind)

/-! The program's angle of a tangent that is at most 1. No condition but the sizes. -/
/-- A word's number is near to c. -/
def chkn (w : Nat) (c e : Rat) : Bool :=
  match double.read w with
  | .number s m p => decide (-e ≤ vD (.number s m p) - c) && decide (vD (.number s m p) - c ≤ e)
  | _ => false
theorem chkn_R {w : Nat} {c e : Rat} (h : chkn w c e = true) : ∃ v, R double w v ∧ Ab (v - c) e := by
  unfold chkn at h
  split at h
  · rename_i s m p e
    simp only [Bool.and_eq_true, decide_eq_true_eq] at h
    exact ⟨_, ⟨s, m, p, e, rfl⟩, h.1, h.2⟩
  · cases h
theorem angP_step {u p i : Nat} {x v c : Rat} (hx : R double u x) (hp : R double p v) (hc : R double (angC i) c) (h0 : Ab x (1/500)) (h1 : Ab v 2) (h2 : Ab c 1) (ha : angP u i = some p) :
    ∃ p' v', angP u (i + 1) = some p' ∧ R double p' v' ∧ Ab (v' - (c - x * v)) (1/1000000000000) := by
  have he : e53 ≤ 1/10000000000000 ∧ 0 ≤ e53 := by decide +kernel
  have hl : lo64 ≤ 1 := by decide +kernel
  have hh : 4 ≤ hi64 := by decide +kernel
  have hm := (h0.mul h1).mono (show (1/500 * 2 : Rat) ≤ 1 by decide +kernel)
  obtain ⟨up, w, b1, b2, b3, _, _⟩ := mul64_R hx hp hm hl (by grind)
  have hs : Ab (c - w) 3 := by unfold Ab at *; grind
  obtain ⟨q, z, d1, d2, d3, _, _⟩ := sub64_R hc b2 hs (by grind) (by grind)
  refine ⟨q, z, by simp [angP, ha, b1, d1], d2, ?_⟩
  unfold Ab at *
  grind
theorem angP_P {u : Nat} {x : Rat} (hx : R double u x) (h0 : 0 ≤ x) (h1 : x ≤ 1/500) :
    ∃ p v, angP u 8 = some p ∧ R double p v ∧ Ab (v - (1 - x / 3 + x * x / 5)) (1/50000000) := by
  obtain ⟨p5, z5, a1, a2, a3, a4⟩ := angP_R hx h0 (by grind) 5 (by omega)
  obtain ⟨c5, c51, c52⟩ := chkn_R (w := angC 5) (c := 1/5) (e := 1/1000000000000) (by decide +kernel)
  obtain ⟨c6, c61, c62⟩ := chkn_R (w := angC 6) (c := 1/3) (e := 1/1000000000000) (by decide +kernel)
  obtain ⟨c7, c71, c72⟩ := chkn_R (w := angC 7) (c := 1) (e := 0) (by decide +kernel)
  have hxa : Ab x (1/500) := by unfold Ab; grind
  obtain ⟨p6, z6, b1, b2, b3⟩ := angP_step hx a2 c51 hxa (by unfold Ab; grind) (by unfold Ab at *; grind) a1
  have k5 := hxa.mul (show Ab z5 (101/100) by unfold Ab; grind)
  have z6b : Ab (z6 - 1/5) (1/500 * (101/100) + 1/100000000000) := by unfold Ab at *; grind
  obtain ⟨p7, z7, d1, d2, d3⟩ := angP_step hx b2 c61 hxa (by unfold Ab at *; grind) (by unfold Ab at *; grind) b1
  have k6 := hxa.mul z6b
  have z7b : Ab (z7 - (1/3 - x / 5)) (1/500 * (1/500 * (101/100) + 1/100000000000) + 1/100000000000) := by
    have : x * (z6 - 1/5) = x * z6 - x / 5 := by grind
    rw [this] at k6
    unfold Ab at *; grind
  obtain ⟨p8, z8, e1, e2, e3⟩ := angP_step hx d2 c71 hxa (by unfold Ab at *; grind) (by unfold Ab at *; grind) d1
  refine ⟨p8, z8, e1, e2, ?_⟩
  have k7 := hxa.mul z7b
  have : x * (z7 - (1/3 - x / 5)) = x * z7 - (x / 3 - x * x / 5) := by grind
  rw [this] at k7
  clear k6 k5 z7b z6b b3 d3 this a2 b2 d2 e2 hx c51 c61 c71
  generalize x * z7 = A at *
  generalize x * x = B at *
  unfold Ab at *
  constructor <;> grind
/-- The turns behind a tangent from 0 on to 1. -/
theorem ang_core {t0 : Nat} {x : Rat} (hx : R double t0 x) (h0 : 0 ≤ x) (h1 : x ≤ 101/100) :
    ∃ t1 t2 t3 u p g vg, angT t0 = some t1 ∧ angT t1 = some t2 ∧ angT t2 = some t3 ∧ mul64 t3 t3 = some u ∧ angP u 8 = some p ∧ angE t3 p = some g ∧ R double g vg ∧ 0 ≤ vg ∧ vg ≤ 175/1000 ∧ (x ≤ 1/4 → Ab (vg * tau - T x) (39/1000000)) := by
  have he : e53 ≤ 1/10000000000000 ∧ 0 ≤ e53 := by decide +kernel
  have hl : lo64 ≤ 1 := by decide +kernel
  have hh : 4 ≤ hi64 := by decide +kernel
  obtain ⟨t1, v1, d1, d2, d3, d4, d5⟩ := angT_P hx h0 h1
  obtain ⟨t2, v2, e1, e2, e3, e4, e5⟩ := angT_P d2 d3 (by grind)
  obtain ⟨t3, v3, f1, f2, f3, f4, f5⟩ := angT_P e2 e3 (by grind)
  have f6 : v3 ≤ 135/1000 := by grind
  have hu0 : Ab (v3 * v3) 1 := by
    have := (show Ab v3 1 by unfold Ab; grind).mul (show Ab v3 1 by unfold Ab; grind)
    exact this.mono (by decide +kernel)
  have hu1 := mul_mono f3 f3 f6 f6
  obtain ⟨u, vu, g1, g2, g3, g4, _⟩ := mul64_R f2 f2 hu0 hl (by grind)
  have g5 := g4 (sq_nn v3)
  have g6 : vu ≤ 5/100 := by unfold Ab at g3; grind
  obtain ⟨p, vp, p1, p2, p3, p4⟩ := angP_R g2 g5 g6 8 (by omega)
  have hm1 := mul_mono f3 p3 f6 p4
  have hm0 := Rat.mul_nonneg f3 p3
  obtain ⟨tp, vtp, k1, k2, k3, k4, _⟩ := mul64_R (B := 1) f2 p2 (by unfold Ab; grind) hl (by grind)
  have k5 := k4 hm0
  have k6 : vtp ≤ 1364/10000 := by unfold Ab at k3; grind
  obtain ⟨e, ve, l1, l2, l3, l4, _⟩ := mul64_R (B := 2) eight64_R k2 (by unfold Ab; grind) (by grind) (by grind)
  have l5 := l4 (by grind)
  have l6 : ve ≤ 1092/1000 := by unfold Ab at l3; grind
  have ht := tau_b
  obtain ⟨g, hg⟩ : ∃ g : Rat, g * tau = ve := ⟨ve / tau, div_mul_self (by grind)⟩
  have hg0 : 0 ≤ g := le_of_mul (show 0 < tau by grind) (by grind)
  have hg1 : g ≤ 174/1000 := le_of_mul (show 0 < tau by grind) (by grind)
  obtain ⟨gw, vg, m1, m2, m3, m4⟩ := div64_R (B := 1) l2 tau64_R (by grind) hg (by unfold Ab; grind) hl (by grind)
  have m5 : 0 ≤ vg := div64_nn l2 tau64_R l5 (by grind) (by
    have := mul_mono (show (0:Rat) ≤ 1 by grind) (show (0:Rat) ≤ 2 by grind) (show 1 ≤ tau by grind) (show 2 ≤ hi64 by grind)
    grind) m1 m2
  refine ⟨t1, t2, t3, u, p, gw, vg, d1, e1, f1, g1, p1, by simp [angE, k1, l1, m1], m2, m5, by unfold Ab at m3; grind, fun hx4 => ?_⟩
  -- the small case
  have w1 : v1 ≤ 128/1000 := by grind
  have w2 : v2 ≤ 66/1000 := by grind
  have w3 : v3 ≤ 34/1000 := by grind
  have hv3 := mul_mono f3 f3 w3 w3
  obtain ⟨p', vp', q1, q2, q3⟩ := angP_P g2 g5 (by unfold Ab at g3; grind)
  have ep : p' = p := Option.some.inj (q1.symm.trans p1)
  subst ep
  have ev := R_inj q2 p2
  subst ev
  have H1 := T_half d3 (U := 256/1000) (P := 16384/1000000) (by grind) (by have := mul_mono d3 d3 w1 w1; grind) (by decide +kernel) (show Ab x (3/10) by unfold Ab; grind) (by decide +kernel) d5
  have H2 := T_half e3 (U := 132/1000) (P := 4356/1000000) (by grind) (by have := mul_mono e3 e3 w2 w2; grind) (by decide +kernel) (show Ab v1 (3/10) by unfold Ab; grind) (by decide +kernel) e5
  have H3 := T_half f3 (U := 68/1000) (P := 1156/1000000) (by grind) (by grind) (by decide +kernel) (show Ab v2 (3/10) by unfold Ab; grind) (by decide +kernel) f5
  have D1 : dT (256/1000) (16384/1000000) + 1/8000000 ≤ 37/1000000 := by decide +kernel
  have D2 : dT (132/1000) (4356/1000000) + 1/8000000 ≤ 1/2000000 := by decide +kernel
  have D3 : dT (68/1000) (1156/1000000) + 1/8000000 ≤ 1/7000000 := by decide +kernel
  have H1 := H1.mono D1
  have H2 := H2.mono D2
  have H3 := H3.mono D3
  -- T v3
  have hT3 : Ab (vtp - T v3) (1/100000000) := by
    have hT : T v3 = v3 * (1 - v3 * v3 / 3 + v3 * v3 * (v3 * v3) / 5) := by unfold T; grind
    have hvu : Ab (vu - v3 * v3) (1/10000000000000) := g3.mono (by grind)
    have hvv : Ab (v3 * v3) (1/100) := by
      have := sq_nn v3
      unfold Ab; grind
    have hvu2 : Ab (vu * vu - v3 * v3 * (v3 * v3)) (1/1000000000000) := by
      have e : vu * vu - v3 * v3 * (v3 * v3) = (vu - v3 * v3) * (vu + v3 * v3) := by grind
      rw [e]
      exact (hvu.mul (show Ab (vu + v3 * v3) 1 by unfold Ab at *; grind)).mono (by decide +kernel)
    have hq : Ab (vp' - (1 - v3 * v3 / 3 + v3 * v3 * (v3 * v3) / 5)) (1/40000000) := by
      generalize v3 * v3 * (v3 * v3) = A at *
      generalize v3 * v3 = B at *
      generalize vu * vu = D at *
      clear H1 H2 H3 D1 D2 D3 hT
      unfold Ab at *
      constructor <;> grind
    have hr := (show Ab v3 (34/1000) by unfold Ab; grind).mul hq
    rw [hT]
    have e : vtp - v3 * (1 - v3 * v3 / 3 + v3 * v3 * (v3 * v3) / 5) = (vtp - v3 * vp') + v3 * (vp' - (1 - v3 * v3 / 3 + v3 * v3 * (v3 * v3) / 5)) := by grind
    rw [e]
    exact (k3.add hr).mono (by have : (34/1000 * (1/40000000) : Rat) ≤ 1/1000000000 := by decide +kernel
                               grind)
  have hvt : Ab (vg * tau - ve) (1/1000000000) := by
    have e : vg * tau - ve = (vg - g) * tau := by rw [← hg]; grind
    rw [e]
    exact (m3.mul (show Ab tau 7 by unfold Ab; grind)).mono (by grind)
  have e : vg * tau - T x = (vg * tau - ve) + (ve - 8 * vtp) + 8 * (vtp - T v3) - 4 * (T v2 - 2 * T v3) - 2 * (T v1 - 2 * T v2) - (T x - 2 * T v1) := by grind
  rw [e]
  clear e D1 D2 D3 hm0 hm1 hu1 hu0 hv3
  generalize T v3 = A at *
  generalize T v2 = B at *
  generalize T v1 = C' at *
  generalize T x = D at *
  generalize vg * tau = E at *
  clear d5 e5 f5 k3 g3 m3 q3 p3 p4 d2 e2 f2 g2 k2 l2 m2 p2 q2 hx
  unfold Ab at *
  constructor <;> grind

/-! The angle of any number but 0. No condition but the sizes. -/
theorem read_zero {f : Format} {b : Nat} {t : Bool} {n : Nat} {j : Int} {y : Rat} (h : vD (.number t n j) = y) (hn : n = 0) : y = 0 := by
  subst hn; rw [← h]; simp [vD]
theorem div64_any {a b : Nat} {x y : Rat} (hx : R double a x) (hy : R double b y) (h : x ≠ 0 ∨ y ≠ 0) : ∃ q, div64 a b = some q := by
  obtain ⟨s, m, i, h1, h2⟩ := hx
  obtain ⟨t, n, j, h3, h4⟩ := hy
  show ∃ q, double.div a b = some q
  unfold Format.div
  rw [h1, h3]
  unfold Datum.quotient
  by_cases hn : n = 0
  · have hy0 := read_zero (f := double) (b := b) h4 hn
    have hm : m ≠ 0 := by
      intro hm
      have := read_zero (f := double) (b := a) h2 hm
      rcases h with h | h
      · exact h this
      · exact h hy0
    simp [hn, hm]
  · simp [hn]
theorem T_odd (t : Rat) : T (-t) = -T t := by unfold T; grind
theorem angle_any {z : C} {X : G} (h : RC z X) (h0 : X.x ≠ 0 ∨ X.y ≠ 0) :
    ∃ an α, AngleIs z an ∧ SAngleIs z an ∧ R single an α ∧ Ab α (51/100) ∧ (∀ t, 0 < X.x → X.y = t * X.x → Ab t (249/1000) → Ab (α * tau - T t) (41/1000000)) := by
  have he : e53 ≤ 1/10000000000000 ∧ 0 ≤ e53 := by decide +kernel
  have hl : lo64 ≤ 1 := by decide +kernel
  have hh : 4 ≤ hi64 := by decide +kernel
  obtain ⟨wx, a1, a2⟩ := wid_R h.1
  obtain ⟨wy, b1, b2⟩ := wid_R h.2
  have ax := absW_R a2
  have ay := absW_R b2
  obtain ⟨Y, hY⟩ : ∃ Y : Rat, Y = if X.y < 0 then -X.y else X.y := ⟨_, rfl⟩
  obtain ⟨Z, hZ⟩ : ∃ Z : Rat, Z = if X.x < 0 then -X.x else X.x := ⟨_, rfl⟩
  rw [← hY] at ay
  rw [← hZ] at ax
  have hY0 : 0 ≤ Y := by rw [hY]; split <;> grind
  have hZ0 : 0 ≤ Z := by rw [hZ]; split <;> grind
  have hYZ : Y ≠ 0 ∨ Z ≠ 0 := by
    rcases h0 with h0 | h0
    · right; rw [hZ]; split <;> grind
    · left; rw [hY]; split <;> grind
  obtain ⟨q, hq⟩ := div64_any ay ax hYZ
  obtain ⟨ov, hov⟩ : ∃ ov, ov = decide (Z < Y) := ⟨_, rfl⟩
  obtain ⟨t0, v0, c1, c2, c3, c4, c5⟩ : ∃ t0 v0, (if ov then div64 (absW wx) (absW wy) else some q) = some t0 ∧ R double t0 v0 ∧ 0 ≤ v0 ∧ v0 ≤ 101/100 ∧ (ov = false → ∃ qr, qr * Z = Y ∧ 0 < Z ∧ Ab (v0 - qr) (2 * e53)) := by
    by_cases hzy : Z < Y
    · have e : ov = true := by rw [hov]; simp [hzy]
      have hYp : 0 < Y := by grind
      obtain ⟨qr, hqr⟩ : ∃ qr : Rat, qr * Y = Z := ⟨Z / Y, div_mul_self (by grind)⟩
      have q1 : 0 ≤ qr := le_of_mul hYp (by grind)
      have q2 : qr ≤ 1 := le_of_mul hYp (by grind)
      obtain ⟨t0, v0, c1, c2, c3, c4⟩ := div64_R (B := 1) ax ay (by grind) hqr (by unfold Ab; grind) hl (by grind)
      have c5 := div64_nn ax ay hZ0 hYp (by
        have := Rat.mul_le_mul_of_nonneg_left hh (show 0 ≤ Y by grind)
        grind) c1 c2
      exact ⟨t0, v0, by rw [e, if_pos rfl]; exact c1, c2, c5, by unfold Ab at c3; grind, fun h => by rw [e] at h; cases h⟩
    · have e : ov = false := by rw [hov]; simp; grind
      have hZp : 0 < Z := by
        rcases hYZ with k | k <;> grind
      obtain ⟨qr, hqr⟩ : ∃ qr : Rat, qr * Z = Y := ⟨Y / Z, div_mul_self (by grind)⟩
      have q1 : 0 ≤ qr := le_of_mul hZp (by grind)
      have q2 : qr ≤ 1 := le_of_mul hZp (by grind)
      obtain ⟨t0, v0, c1, c2, c3, c4⟩ := div64_R (B := 1) ay ax (by grind) hqr (by unfold Ab; grind) hl (by grind)
      have c5 := div64_nn ay ax hY0 hZp (by
        have := Rat.mul_le_mul_of_nonneg_left hh (show 0 ≤ Z by grind)
        grind) c1 c2
      have eq : q = t0 := Option.some.inj (hq.symm.trans c1)
      exact ⟨t0, v0, by rw [e]; simp [eq], c2, c5, by unfold Ab at c3; grind, fun _ => ⟨qr, hqr, hZp, c3.mono (by grind)⟩⟩
  obtain ⟨t1, t2, t3, u, p, g, vg, d1, d2, d3, d4, d5, d6, d7, d8, d9, d10⟩ := ang_core c2 c3 c4
  obtain ⟨g1, v1, k1, k2, k3, k4, k5⟩ : ∃ g1 v1, (if ov then sub64 quarter64 g else some g) = some g1 ∧ R double g1 v1 ∧ 0 ≤ v1 ∧ v1 ≤ 26/100 ∧ (ov = false → v1 = vg) := by
    cases ov with
    | false => exact ⟨g, vg, by simp, d7, d8, by grind, fun _ => rfl⟩
    | true =>
      obtain ⟨w, v, w1, w2, w3, w4, _⟩ := sub64_R (B := 1) quarter64_R d7 (by unfold Ab; grind) hl (by grind)
      exact ⟨w, v, by rw [if_pos rfl]; exact w1, w2, w4 (by grind), by unfold Ab at w3; grind, fun h => by cases h⟩
  obtain ⟨xn, hxn⟩ : ∃ xn, xn = decide (X.x < 0) := ⟨_, rfl⟩
  obtain ⟨yn, hyn⟩ : ∃ yn, yn = decide (X.y < 0) := ⟨_, rfl⟩
  obtain ⟨g2, v2, l1, l2, l3, l4, l5⟩ : ∃ g2 v2, (if xn then sub64 half64 g1 else some g1) = some g2 ∧ R double g2 v2 ∧ 0 ≤ v2 ∧ v2 ≤ 501/1000 ∧ (xn = false → v2 = v1) := by
    clear hxn
    cases xn with
    | false => exact ⟨g1, v1, by simp, k2, k3, by grind, fun _ => rfl⟩
    | true =>
      obtain ⟨w, v, w1, w2, w3, w4, _⟩ := sub64_R (B := 1) half64_R k2 (by unfold Ab; grind) hl (by grind)
      exact ⟨w, v, by rw [if_pos rfl]; exact w1, w2, w4 (by grind), by unfold Ab at w3; grind, fun h => by cases h⟩
  obtain ⟨g3, v3, m1, m2, m3, m4⟩ : ∃ g3 v3, (if yn then neg64 g2 else g2) = g3 ∧ R double g3 v3 ∧ Ab v3 (501/1000) ∧ v3 = (if yn then -v2 else v2) := by
    clear hyn
    cases yn with
    | false => exact ⟨g2, v2, by simp, l2, by unfold Ab; grind, by simp⟩
    | true => exact ⟨neg64 g2, -v2, by simp, neg64_R l2, by unfold Ab; grind, by simp⟩
  obtain ⟨an, α, s1, s2, s3⟩ := nar_R m2 m3 (by decide +kernel)
  have s4 := near_s s3 m3 (by decide +kernel)
  have hsm := e24_small
  have s5 : Ab α (51/100) := by
    unfold Ab at *
    grind
  have o1 : (FloatKind.f32.format.order z.1 0 == some .eq) = decide (X.x = 0) := order_eq h.1 R_00
  have o2 : (FloatKind.f32.format.order z.2 0 == some .eq) = decide (X.y = 0) := order_eq h.2 R_00
  have AI : AngIn z.2 z.1 wy wx xn yn := by
    refine ⟨Fin_R h.2, Fin_R h.1, b1, a1, wid_64 b1, wid_64 a1, ?_, ?_, ?_, self64 b2, self64 a2, ?_, ?_⟩
    · rw [o1, o2]
      by_cases hx0 : X.x = 0
      · right; simp; grind
      · left; simp; exact hx0
    · have := order_lt h.1 R_00
      rw [show FloatKind.f32.format.order z.1 0 = single.order z.1 0 from rfl, this, hxn]
    · have := order_lt h.2 R_00
      rw [show FloatKind.f32.format.order z.2 0 = single.order z.2 0 from rfl, this, hyn]
    · exact order_same h.1 R_00 a2 zero64_R
    · exact order_same h.2 R_00 b2 zero64_R
  have AA : Ang (absW wy) (absW wx) q t0 t1 t2 t3 u p g g1 g2 g3 ov xn yn := by
    refine ⟨hq, ?_, c1, d1, d2, d3, d4, d5, d6, k1, l1, m1⟩
    unfold gt64
    rw [show FloatKind.f64.format.order (absW wy) (absW wx) = double.order (absW wy) (absW wx) from rfl, order_gt ay ax, hov]
  refine ⟨an, α, .inr ⟨_, _, _, _, _, _, _, _, _, _, _, _, _, _, _, _, AI, AA, s1⟩, .inr ⟨_, _, _, _, _, _, _, _, _, _, _, _, _, _, _, _, AI, AA, s1⟩, s2, s5, ?_⟩
  intro t hxp hty htb
  have hZe : Z = X.x := by rw [hZ, if_neg (by grind)]
  have hYt : Ab t (249/1000) := htb
  have hYle : Y ≤ Z := by
    have h1 := Rat.mul_le_mul_of_nonneg_right htb.2 (Rat.le_of_lt hxp)
    have h2 := Rat.mul_le_mul_of_nonneg_right htb.1 (Rat.le_of_lt hxp)
    rw [hZe, hY]; split <;> grind
  have ovf : ov = false := by rw [hov]; simp; grind
  have xnf : xn = false := by rw [hxn]; simp; grind
  obtain ⟨qr, hqr, hZp, hvq⟩ := c5 ovf
  have hqt : qr = if yn then -t else t := by
    have e1 : (qr - (if yn then -t else t)) * Z = 0 := by
      have e2 : (qr - (if yn then -t else t)) * Z = qr * Z - (if yn then -t else t) * Z := by generalize (if yn then -t else t) = c; grind
      rw [e2, hqr, hY, hZe, hyn]
      by_cases hy : X.y < 0 <;> simp [hy] <;> grind
    have : qr - (if yn then -t else t) = 0 := by grind
    grind
  have hqb : Ab qr (249/1000) := by rw [hqt]; split <;> (unfold Ab at *; grind)
  have hv4 : v0 ≤ 1/4 := by unfold Ab at *; grind
  have K := d10 hv4
  have K2 := T_near (a := v0) (b := qr) (show Ab v0 (3/10) by unfold Ab; grind) (hqb.mono (by decide +kernel)) hvq
  have e12 : v2 = vg := by rw [l5 xnf, k5 ovf]
  have s6 : Ab (α * tau - v3 * tau) (1/1000000) := by
    have e : α * tau - v3 * tau = (α - v3) * tau := by grind
    rw [e]
    have ht := tau_b
    have hsv : Ab (α - v3) (1/10000000) := s4.mono (by unfold e24; decide +kernel)
    exact (hsv.mul (show Ab tau 7 by unfold Ab; grind)).mono (by decide +kernel)
  have hTt : T t = if yn then -T qr else T qr := by
    rw [hqt]
    split
    · rw [T_odd]; grind
    · rfl
  rw [hTt]
  rw [m4, e12] at s6
  have he4 : 2 * e53 * (11/10) ≤ 1/1000000000 := by grind
  clear hTt m4 e12 hqb hv4 hqt hqr hvq s4 AA AI s3 s2 s1 m2 m3 l2 k2 d7 c2 hsm
  clear d1 d2 d3 d4 d5 d6 c1 k1 l1 m1 hq hxn hyn
  cases yn
  · simp only [Bool.false_eq_true, if_false] at *
    unfold Ab at *
    constructor <;> grind
  · simp only [if_true] at *
    unfold Ab at *
    constructor <;> grind
end Go.Proofs.Ytlhdgbiaiacpfaa
