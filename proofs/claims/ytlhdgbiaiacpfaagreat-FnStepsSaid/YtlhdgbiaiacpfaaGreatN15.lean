/- The phasors of small turns, and roots of numbers near to the axis, on. -/
import Derived.Test.YtlhdgbiaiacpfaaGreatN14
namespace Go.Proofs.YtlhdgbiaiacpfaaGreat
open Go.RowKit Num Ieee
open G
theorem add_64 {a b w : Nat} (h : add64 a b = some w) : W64 w := map_64 h
theorem phasor_small {y : Nat} {t : Rat} (hy : R double y t) (hw : W64 y) (ht : Ab t (31/1000)) :
    ∃ ph f0 f g neg q yc fc c fs s a b P, Phas y f0 f g neg q yc fc c fs s a b ph ∧ RC ph P ∧ 839/1000 ≤ P.x ∧ P.x ≤ 1151/1000 ∧ Ab P.y (211/1000) := by
  have he : e53 ≤ 1/100000000000 ∧ 0 ≤ e53 := by decide +kernel
  have hq53 : (1/4:Rat) * e53 ≤ 1/2^55 := by decide +kernel
  have hl : lo64 ≤ 1/4 := by decide +kernel
  have hh : 10 ≤ hi64 := by decide +kernel
  obtain ⟨f0, T0, f1, f2⟩ := turn_in hy hw (ht.mono (by decide +kernel))
  -- what is made of the parts, in the end
  have close : ∀ {u v : Nat} {cu cv : Rat}, R double u cu → R double v cv → 84/100 ≤ cu → cu ≤ 115/100 → Ab cv (21/100) → ∃ ph P, narC (u, v) = some ph ∧ RC ph P ∧ 839/1000 ≤ P.x ∧ P.x ≤ 1151/1000 ∧ Ab P.y (211/1000) := by
    intro u v cu cv hu hv h1 h2 h3
    have hb : Bd (⟨cu, cv⟩ : G) 2 := ⟨by unfold Ab; grind, h3.mono (by decide +kernel)⟩
    obtain ⟨ph, P, p1, p2, p3, p4⟩ := narC_R (t := (u, v)) ⟨hu, hv⟩ hb (by decide +kernel)
    have k1 := near_s p3 hb.1 (by decide +kernel)
    have k2 := near_s p4 hb.2 (by decide +kernel)
    have := e24_small
    have e4 : e24 ≤ 1/10000 := by decide +kernel
    refine ⟨ph, P, p1, p2, ?_, ?_, ?_⟩
    · unfold Ab at k1; grind
    · unfold Ab at k1; grind
    · unfold Ab at *; grind
  by_cases hneg : t < 0
  · -- below: three or four quarters are taken away
    have hb1 : Ab (t + 1) 1 := by unfold Ab at *; grind
    obtain ⟨f, vf, a1, a2, a3, a4, a5⟩ := add64_R (B := 1) f1 one64_R hb1 (by grind) (by grind)
    have g1 : 9689/10000 ≤ vf := by unfold Ab at *; grind
    have g2 : vf ≤ 1 := by
      refine one_cap a2 ?_
      have : (1:Rat) * e53 ≤ 1/2^53 := by decide +kernel
      unfold Ab at a3; grind
    have of : On (-53) vf := on_of_ge a2 (Rat.le_trans (by decide +kernel) g1)
    have oq : On (-53) (1/4) := ⟨2 ^ 51, by decide +kernel⟩
    have stepq : ∀ {u : Nat} {x : Rat}, R double u x → On (-53) x → 1/4 ≤ x → x ≤ 1 → ∃ w, sub64 u quarter64 = some w ∧ R double w (x - 1/4) ∧ On (-53) (x - 1/4) ∧ W64 w := by
      intro u x hu ou h1 h2
      have hb : Ab (x - 1/4) (3/4) := by unfold Ab; grind
      obtain ⟨w, v, w1, w2, w3⟩ := sub_d hu quarter64_R hb (by decide +kernel)
      have e := near_on_d w3 (ou.sub oq) hb (by decide +kernel) (by omega)
      subst e
      exact ⟨w, w1, w2, ou.sub oq, map_64 w1⟩
    obtain ⟨q1, b1, b2, b3, _⟩ := stepq a2 of (by grind) g2
    obtain ⟨q2, c1, c2, c3, _⟩ := stepq b2 b3 (by grind) (by grind)
    obtain ⟨q3, d1, d2, d3, d4⟩ := stepq c2 c3 (by grind) (by grind)
    have hgq : ∀ {u : Nat} {x : Rat}, R double u x → 1/4 ≤ x → (FloatKind.f64.format.order u quarter64 == some .gt || FloatKind.f64.format.order u quarter64 == some .eq) = true := by
      intro u x hu h
      rw [show FloatKind.f64.format.order u quarter64 = double.order u quarter64 from rfl, order_gt hu quarter64_R, order_eq hu quarter64_R]
      simp; grind
    have hlt0 : (FloatKind.f64.format.order f0 0 == some .lt) = true := by
      rw [show FloatKind.f64.format.order f0 0 = double.order f0 0 from rfl, order_lt f1 zero64_R]; simp; exact hneg
    have s1 : subQ f 1 = some q1 := by simp [subQ, b1]
    have s2 : subQ f 2 = some q2 := by rw [show subQ f 2 = (subQ f 1).bind fun g => sub64 g quarter64 from rfl, s1]; simpa using c1
    have s3 : subQ f 3 = some q3 := by rw [show subQ f 3 = (subQ f 2).bind fun g => sub64 g quarter64 from rfl, s2]; simpa using d1
    by_cases h1 : vf < 1
    · -- three quarters
      have hg : vf - 1/4 - 1/4 - 1/4 < 1/4 := by grind
      have hgl : 2189/10000 ≤ vf - 1/4 - 1/4 - 1/4 := by grind
      have hyb : Ab (1/4 - (vf - 1/4 - 1/4 - 1/4)) (1/4) := by unfold Ab; grind
      obtain ⟨yc, vy, y1, y2, y3, y4, y5⟩ := sub64_R (B := 1/4) quarter64_R d2 hyb (by grind) (by grind)
      have y6 := y4 (by grind)
      have y7 : vy ≤ 32/1000 := by unfold Ab at y3; grind
      obtain ⟨fc, sc1, sc2⟩ := sin_in y2 y5 y6 (by grind)
      obtain ⟨fs, ss1, ss2⟩ := sin_in d2 d4 (by grind) (by grind)
      obtain ⟨c, vc, cc1, cc2, cc3, cc4, _⟩ := sinO_R sc2 y6 (by grind)
      obtain ⟨s, vs, cs1, cs2, cs3, _, cs5⟩ := sinO_R ss2 (by grind) (by grind)
      have k1 := cc4 y7
      have k2 := cs5 (by grind)
      obtain ⟨m, vm, m1, m2, m3, _, _⟩ := sub64_R (B := 1/4) zero64_R cc2 (by unfold Ab; grind) (by grind) (by grind)
      -- the narrow ones
      have hm : Ab vm (2101/10000) := by unfold Ab at *; grind
      have hb : Bd (⟨vs, vm⟩ : G) 2 := ⟨by unfold Ab; grind, hm.mono (by decide +kernel)⟩
      obtain ⟨ph, P, p1, p2, p3, p4⟩ := narC_R (t := (s, m)) ⟨cs2, m2⟩ hb (by decide +kernel)
      have n1 := near_s p3 hb.1 (by decide +kernel)
      have n2 := near_s p4 hb.2 (by decide +kernel)
      have e4 : e24 ≤ 1/10000 := by decide +kernel
      refine ⟨ph, f0, f, q3, true, 3, yc, fc, c, fs, s, s, m, P, ⟨⟨T0, hlt0, by simpa using a1, s3, ?_, ?_⟩, by omega, y1, sc1, cc1, ss1, cs1, ?_, p1⟩, p2, ?_, ?_, ?_⟩
      · intro i h hi hs
        obtain rfl | rfl | rfl : i = 0 ∨ i = 1 ∨ i = 2 := by omega
        · cases hs; exact hgq a2 (by grind)
        · rw [s1] at hs; cases hs; exact hgq b2 (by grind)
        · rw [s2] at hs; cases hs; exact hgq c2 (by grind)
      · exact (order_R d2 quarter64_R).1 hg
      · simp [phR, m1]
      · unfold Ab at n1; grind
      · unfold Ab at n1; grind
      · unfold Ab at *; grind
    · -- four quarters
      have e1 : vf = 1 := by grind
      subst e1
      obtain ⟨q4, e1, e2, e3, e4⟩ := stepq d2 d3 (by grind) (by grind)
      have ez : (1:Rat) - 1/4 - 1/4 - 1/4 - 1/4 = 0 := by grind
      rw [ez] at e2
      have s4 : subQ f 4 = some q4 := by rw [show subQ f 4 = (subQ f 3).bind fun g => sub64 g quarter64 from rfl, s3]; simpa using e1
      obtain ⟨yc, vy, y1, y2, y3, y4, y5⟩ := sub64_R (B := 1/4) quarter64_R e2 (by unfold Ab; grind) (by grind) (by grind)
      have y6 := y4 (by grind)
      have y7 : vy ≤ 1/4 := quarter_cap y2 (by unfold Ab at y3; grind)
      have y8 : 218/1000 ≤ vy := by unfold Ab at y3; grind
      obtain ⟨fc, sc1, sc2⟩ := sin_in y2 y5 y6 y7
      obtain ⟨fs, ss1, ss2⟩ := sin_in e2 e4 (by grind) (by grind)
      obtain ⟨c, vc, cc1, cc2, cc3, _, cc5⟩ := sinO_R sc2 y6 y7
      obtain ⟨s, vs, cs1, cs2, cs3, cs4, _⟩ := sinO_R ss2 (by grind) (by grind)
      have k1 := cc5 y8
      have k2 := cs4 (by grind)
      obtain ⟨ph, P, p1, p2, p3, p4, p5⟩ := close cc2 cs2 k1.1 k1.2 (by unfold Ab; grind)
      refine ⟨ph, f0, f, q4, true, 4, yc, fc, c, fs, s, c, s, P, ⟨⟨T0, hlt0, by simpa using a1, s4, ?_, ?_⟩, by omega, y1, sc1, cc1, ss1, cs1, by simp [phR], p1⟩, p2, p3, p4, p5⟩
      · intro i h hi hs
        obtain rfl | rfl | rfl | rfl : i = 0 ∨ i = 1 ∨ i = 2 ∨ i = 3 := by omega
        · cases hs; exact hgq a2 (by grind)
        · rw [s1] at hs; cases hs; exact hgq b2 (by grind)
        · rw [s2] at hs; cases hs; exact hgq c2 (by grind)
        · rw [s3] at hs; cases hs; exact hgq d2 (by grind)
      · exact (order_R e2 quarter64_R).1 (by grind)
  · -- not below
    have h0 : 0 ≤ t := by grind
    have hlt0 : (FloatKind.f64.format.order f0 0 == some .lt) = false := by
      rw [show FloatKind.f64.format.order f0 0 = double.order f0 0 from rfl, order_lt f1 zero64_R]; simp; grind
    have ht1 : t ≤ 31/1000 := ht.2
    obtain ⟨yc, vy, y1, y2, y3, y4, y5⟩ := sub64_R (B := 1/4) quarter64_R f1 (by unfold Ab; grind) (by grind) (by grind)
    have y6 := y4 (by grind)
    have y7 : vy ≤ 1/4 := quarter_cap y2 (by unfold Ab at y3; grind)
    have y8 : 218/1000 ≤ vy := by unfold Ab at y3; grind
    obtain ⟨fc, sc1, sc2⟩ := sin_in y2 y5 y6 y7
    obtain ⟨fs, ss1, ss2⟩ := sin_in f1 f2 h0 (by grind)
    obtain ⟨c, vc, cc1, cc2, cc3, _, cc5⟩ := sinO_R sc2 y6 y7
    obtain ⟨s, vs, cs1, cs2, cs3, cs4, _⟩ := sinO_R ss2 h0 (by grind)
    have k1 := cc5 y8
    have k2 := cs4 (by grind)
    obtain ⟨ph, P, p1, p2, p3, p4, p5⟩ := close cc2 cs2 k1.1 k1.2 (by unfold Ab; grind)
    refine ⟨ph, f0, f0, f0, false, 0, yc, fc, c, fs, s, c, s, P, ⟨⟨T0, hlt0, by simp, rfl, ?_, ?_⟩, by omega, y1, sc1, cc1, ss1, cs1, by simp [phR], p1⟩, p2, p3, p4, p5⟩
    · intro i h hi hs; omega
    · exact (order_R f1 quarter64_R).1 (by grind)
theorem half32_R : R single 1056964608 (1/2) := chk_R (by decide +kernel)
/-- A root of a number near to the axis, m2 its size: near to the root of that. -/
theorem root_near {z : C} {X : G} {m : Rat} (h : RC z X) (hm : 1 ≤ m) (hm3 : m ≤ 3) (hX : Le (X - ⟨4096 * (m * m), 0⟩) (4096 * (m * m) * (25/100)) one_) :
    ∃ r Rv, (∃ an hn yn ph l ly sl rt, RootIs z r an hn yn ph l ly sl rt) ∧ RC r Rv ∧ Le (Rv - ⟨64 * m, 0⟩) (64 * m * (40/100)) one_ := by
  have hmm := mul_mono (show (0:Rat) ≤ 1 by grind) (show (0:Rat) ≤ 1 by grind) hm hm
  have hmm9 := mul_mono (show (0:Rat) ≤ m by grind) (show (0:Rat) ≤ m by grind) hm3 hm3
  have hbd := hX.bd
  obtain ⟨k, hk⟩ : ∃ k : Rat, k = 4096 * (m * m) := ⟨_, rfl⟩
  rw [← hk] at hX hbd
  have hk1 : 4096 ≤ k := by grind
  have hk2 : k ≤ 40000 := by grind
  have bx : 75/100 * k ≤ X.x ∧ X.x ≤ 125/100 * k ∧ Ab X.y (25/100 * k) := by
    unfold Bd Ab at *
    simp only [sub_x, sub_y] at hbd
    grind
  obtain ⟨an, t, a1, a2, a3, a4⟩ := angle_small h (by grind) (bx.2.2.mono (by grind))
  -- half of the angle
  have hhb : Ab (1/2 * t) 1 := by unfold Ab at *; grind
  obtain ⟨hn, vh, b1, b2, b3⟩ := mul_s half32_R a3 hhb (by decide +kernel)
  have b4 := near_s b3 hhb (by decide +kernel)
  have e4 : e24 ≤ 1/10000 := by decide +kernel
  have b5 : Ab vh (31/1000) := by unfold Ab at *; grind
  obtain ⟨yn, c1, c2⟩ := wid_R b2
  obtain ⟨ph, f0, f, g, neg, q, yc, fc, c, fs, s, a, b, P, d1, d2, d3, d4, d5⟩ := phasor_small c2 (wid_64 c1) b5
  -- the length
  have hXle : Le X (125/100 * k) one_ := by
    have hk0 : Le (⟨k, 0⟩ : G) k one_ := le_one (by grind) (by unfold N; grind)
    have := (hX.add hk0).mono (b := 125/100 * k) (by grind)
    rwa [show X - ⟨k, 0⟩ + ⟨k, 0⟩ = X by ext <;> simp <;> grind] at this
  have hkk : (125/100 * k) * (125/100 * k) ≤ 50000 * 50000 := mul_mono (by grind) (by grind) (by grind) (by grind)
  have ty1 : tiny * 2 ≤ 1 := by decide +kernel
  have ty2 : tiny ≤ 1 := by decide +kernel
  have ty3 : (50000:Rat) * 50000 * 4 ≤ huge := by decide +kernel
  obtain ⟨l, L, l1, l2, l3, l4, l5⟩ := longO_R h (of_le_one hXle) (by grind) (by grind)
  have hNX : 75/100 * k * (75/100 * k) ≤ N X := by
    have h1 := mul_mono (show (0:Rat) ≤ 75/100 * k by grind) (show (0:Rat) ≤ 75/100 * k by grind) bx.1 bx.1
    have := sq_nn X.y
    unfold N; grind
  have l6 := l5 (75/100 * k) (by grind) hNX
  have e5 : e24 ≤ 1/1000000 ∧ 0 ≤ e24 := by decide +kernel
  have l7 : 7499/10000 * k ≤ L := by
    have := Rat.mul_le_mul_of_nonneg_left (show 1 - 4/1000000 ≤ 1 - 4 * e24 by grind) (show 0 ≤ 75/100 * k by grind)
    grind
  have l8 : L ≤ 12501/10000 * k := by
    have := Rat.mul_le_mul_of_nonneg_left (show 1 + 4 * e24 ≤ 1 + 4/1000000 by grind) (show 0 ≤ 125/100 * k by grind)
    grind
  obtain ⟨ly, m1, m2⟩ := wid_R l2
  obtain ⟨sl, vs, n1, n2, n3, n4, n5⟩ := sqrt64_R m2 (by grind) (by grind)
  have n6 : 8659/10000 * (64 * m) ≤ vs := by
    refine le_of_sq n3 ?_
    have : 8659/10000 * (64 * m) * (8659/10000 * (64 * m)) = 8659/10000 * (8659/10000) * k := by rw [hk]; grind
    grind
  have n7 : vs ≤ 11182/10000 * (64 * m) := by
    refine le_of_sq (by grind) ?_
    have : 11182/10000 * (64 * m) * (11182/10000 * (64 * m)) = 11182/10000 * (11182/10000) * k := by rw [hk]; grind
    grind
  have hsb : Ab vs 400 := by unfold Ab; grind
  obtain ⟨rt, vr, o1, o2, o3⟩ := nar_R n2 hsb (by decide +kernel)
  have o4 := near_s o3 hsb (by decide +kernel)
  have o5 : 8658/10000 * (64 * m) ≤ vr ∧ vr ≤ 11183/10000 * (64 * m) := by unfold Ab at o4; grind
  have hvr0 : 0 ≤ vr := by grind
  have p1 := mul_mono (show 0 ≤ P.x by grind) hvr0 d4 o5.2
  have p2 := mul_mono (show (0:Rat) ≤ 839/1000 by decide +kernel) (show 0 ≤ 8658/10000 * (64 * m) by grind) d3 o5.1
  have p3 := d5.mul (show Ab vr (11183/10000 * (64 * m)) by unfold Ab; grind)
  have hsc : Bd (sc vr P) 1000 := by
    constructor
    · show Ab (P.x * vr) 1000
      unfold Ab; constructor <;> grind
    · show Ab (P.y * vr) 1000
      exact p3.mono (by grind)
  obtain ⟨r, Rv, r1, r2, r3⟩ := scaleO_R d2 o2 hsc (by decide +kernel) (by decide +kernel)
  refine ⟨r, Rv, ⟨an, hn, yn, ph, l, ly, sl, rt, a1, a2, b1, c1, ⟨f0, f, g, neg, q, yc, fc, c, fs, s, a, b, d1⟩, l1, m1, n1, o1, r1⟩, r2, ?_⟩
  -- how far it is off
  have hr3 : Bd (Rv - sc vr P) (1/1000) := r3.mono (by decide +kernel)
  have hx : Ab (Rv.x - 64 * m) (64 * m * (29/100)) := by
    have := hr3.1
    simp only [sub_x, sc_x] at this
    unfold Ab at *
    constructor <;> grind
  have hy : Ab Rv.y (64 * m * (24/100)) := by
    have := hr3.2
    simp only [sub_y, sc_y] at this
    unfold Ab at *
    constructor <;> grind
  refine le_one (by grind) ?_
  have q1 := sq_le_of_ab hx
  have q2 := sq_le_of_ab hy
  unfold N
  simp only [sub_x, sub_y]
  have e9 : Rv.y - 0 = Rv.y := by grind
  rw [e9]
  have hm0 := sq_nn (64 * m)
  have e6 : 64 * m * (29/100) * (64 * m * (29/100)) = 64 * m * (64 * m) * (841/10000) := by grind
  have e7 : 64 * m * (24/100) * (64 * m * (24/100)) = 64 * m * (64 * m) * (576/10000) := by grind
  have e8 : 64 * m * (40/100) * (64 * m * (40/100)) = 64 * m * (64 * m) * (1600/10000) := by grind
  rw [e6] at q1
  rw [e7] at q2
  rw [e8]
  grind
end Go.Proofs.YtlhdgbiaiacpfaaGreat
