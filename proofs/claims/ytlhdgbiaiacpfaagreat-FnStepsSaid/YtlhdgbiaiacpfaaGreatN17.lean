/- Laguerre's step near a root, on. -/
import Derived.Test.YtlhdgbiaiacpfaaGreatN16
namespace Go.Proofs.YtlhdgbiaiacpfaaGreat
open Go.RowKit Num Ieee
open G
theorem scale_zero {u r : C} {X : G} {k : Nat} (hu : RC u X) (hk : R single k 0) (h : scaleO u k = some r) : RC r z0 := by
  obtain ⟨a, x, a1, a2, a3⟩ := mul_s hu.1 hk (B := 1) (by rw [Rat.mul_zero]; exact Ab.zero (by grind)) (by decide +kernel)
  obtain ⟨b, y, b1, b2, b3⟩ := mul_s hu.2 hk (B := 1) (by rw [Rat.mul_zero]; exact Ab.zero (by grind)) (by decide +kernel)
  rw [Rat.mul_zero] at a3 b3
  have ex : x = 0 := by have := a3.sgn; grind
  have ey : y = 0 := by have := b3.sgn; grind
  subst ex ey
  have e : (a, b) = r := by
    have : scaleO u k = some (a, b) := by simp [scaleO, show mul32 u.1 k = some a from a1, show mul32 u.2 k = some b from b1]
    exact Option.some.inj (this.symm.trans h)
  subst e
  exact ⟨a2, b2⟩
theorem ri_range {n : Nat} (hn : n ≤ 4) (hn1 : 1 ≤ n) : 1 ≤ ri n ∧ ri n ≤ 4 := by
  constructor
  · have : ((1 : Nat) : Rat) ≤ ((n : Nat) : Rat) := by exact_mod_cast hn1
    exact this
  · have : ((n : Nat) : Rat) ≤ ((4 : Nat) : Rat) := by exact_mod_cast hn
    exact this
/-- The chain up to what is under the root. -/
theorem lag_chain {n i : Nat} {r : Nat → G} {D S T V S1 T1 : G} (h : NearV n i r D S T V S1 T1) (hn : n ≤ 4) (hn1 : 1 ≤ n) {v s t : C} (hv : RC v V) (hs : RC s S1) (ht : RC t T1) :
    ∃ a c sq b e f d1 x VA, quotO s v = some a ∧ quotO t v = some c ∧ FinC a ∧ FinC c ∧ mulO a a = some sq ∧ minusO sq c = some b ∧ scaleO b (floatOfInt .f32 (((n + 1 : Nat) : Int) - 1)) = some e ∧
      minusO e sq = some f ∧ sub32 (floatOfInt .f32 (((n + 1 : Nat) : Int) - 1)) 1065353216 = some d1 ∧ scaleO f d1 = some x ∧ FinC x ∧ RC a VA ∧ Le (VA - ⟨64, 0⟩) (961/100) one_ ∧
      ∃ r' Rv, (∃ an hn yn ph l ly sl rt, RootIs x r' an hn yn ph l ly sl rt) ∧ RC r' Rv ∧ Le (Rv - ⟨64 * (ri n - 1), 0⟩) (64 * (ri n - 1) * (40/100)) one_ := by
  obtain ⟨nv1, nv2, Qa, Qc, ha, hc, hQa, hQc, hQc1⟩ := lag_quots h hn hn1
  obtain ⟨r1, r4⟩ := ri_range hn hn1
  have hnR : R single (floatOfInt .f32 (((n + 1 : Nat) : Int) - 1)) (ri n) := by
    have := i32_R (k := n) (by omega)
    rwa [show ((n + 1 : Nat) : Int) - 1 = (n : Int) by omega]
  have e4 : e24 = 1/16777216 := rfl
  have h64 : Le (⟨64, 0⟩ : G) 64 one_ := le_one (by grind) (by decide +kernel)
  have hQal : Le Qa (7361/100) one_ := by
    have := (hQa.add h64).mono (b := 7361/100) (by decide +kernel)
    rwa [show Qa - ⟨64, 0⟩ + ⟨64, 0⟩ = Qa by ext <;> simp <;> grind] at this
  obtain ⟨a, VA, a1, a2, a3⟩ := quot_R hs hv ha (hQal.bd.mono (show 7361/100 ≤ 80 by decide +kernel)) (by decide +kernel) (by decide +kernel) nv1 (by grind)
  have a4 := (bd_le a3).mono (b := 3/100000) (by decide +kernel)
  have hVA : Le VA 75 one_ := by
    have := (a4.add hQal).mono (b := 75) (by decide +kernel)
    rwa [show VA - Qa + Qa = VA by ext <;> simp <;> grind] at this
  obtain ⟨c, VC, c1, c2, c3⟩ := quot_R ht hv hc hQc.bd (by decide +kernel) (by decide +kernel) nv1 (by grind)
  have c4 := (bd_le c3).mono (b := 26/100000) (by decide +kernel)
  have hVC : Le VC 701 one_ := by
    have := (c4.add hQc).mono (b := 701) (by decide +kernel)
    rwa [show VC - Qc + Qc = VC by ext <;> simp <;> grind] at this
  obtain ⟨sq, VS, s1, s2, s3⟩ := mulO_R a2 a2 hVA.bd hVA.bd (by decide +kernel) (by decide +kernel)
  have s4 := (bd_le s3).mono (b := 203/100000) (by decide +kernel)
  have hVS : Le VS 5626 one_ := by
    have h1 := hVA.mul hVA
    rw [mul_one] at h1
    have := (s4.add h1).mono (b := 5626) (by decide +kernel)
    rwa [show VS - VA * VA + VA * VA = VS by ext <;> simp <;> grind] at this
  obtain ⟨b, VB, b1, b2, b3⟩ := minusO_R s2 c2 (hVS.sub hVC).bd (by decide +kernel) (by decide +kernel)
  have b4 := (bd_le b3).mono (b := 6/10000) (by decide +kernel)
  have hVB : Le VB 6328 one_ := by
    have := (b4.add (hVS.sub hVC)).mono (b := 6328) (by decide +kernel)
    rwa [show VB - (VS - VC) + (VS - VC) = VB by ext <;> simp <;> grind] at this
  have hνB : Le (sc (ri n) VB) 25312 one_ := (hVB.sc (k := ri n) (by grind)).mono (by grind)
  obtain ⟨e, VE, e1, e2, e3⟩ := scaleO_R b2 hnR hνB.bd (by decide +kernel) (by decide +kernel)
  have e5 := (bd_le e3).mono (b := 23/10000) (by decide +kernel)
  have hVE : Le VE 25313 one_ := by
    have := (e5.add hνB).mono (b := 25313) (by decide +kernel)
    rwa [show VE - sc (ri n) VB + sc (ri n) VB = VE by ext <;> simp <;> grind] at this
  obtain ⟨f, VF, f1, f2, f3⟩ := minusO_R e2 s2 (hVE.sub hVS).bd (by decide +kernel) (by decide +kernel)
  have f4 := (bd_le f3).mono (b := 28/10000) (by decide +kernel)
  have hVF : Le VF 30940 one_ := by
    have := (f4.add (hVE.sub hVS)).mono (b := 30940) (by decide +kernel)
    rwa [show VF - (VE - VS) + (VE - VS) = VF by ext <;> simp <;> grind] at this
  have h1R : R single 1065353216 1 := chk_R (by decide +kernel)
  obtain ⟨d1, vd, d2, d3, d4⟩ := sub_s hnR h1R (B := 4) (by unfold Ab; grind) (by decide +kernel)
  have d5 : vd = ri n - 1 := by
    have o : On 0 (ri n - 1) := by
      have o1 := On.int (n : Int)
      have o2 := On.int 1
      have e1 : ((n : Int) : Rat) = ri n := by unfold ri; push_cast; rfl
      have e2 : ((1 : Int) : Rat) = 1 := rfl
      rw [e1] at o1
      rw [e2] at o2
      exact o1.sub o2
    exact near_on_s d4 o (B := 4) (by unfold Ab; grind) (by decide +kernel) (by omega)
  subst d5
  have hm : Le (sc (ri n - 1) VF) 92820 one_ := (hVF.sc (k := ri n - 1) (by grind)).mono (by grind)
  obtain ⟨x, VX, x1, x2, x3⟩ := scaleO_R f2 d3 hm.bd (by decide +kernel) (by decide +kernel)
  have x4 := (bd_le x3).mono (b := 84/10000) (by decide +kernel)
  have hVA64 : Le (VA - ⟨64, 0⟩) (961/100) one_ := by
    have := (a4.add hQa).mono (b := 961/100) (by decide +kernel)
    rwa [show VA - Qa + (Qa - ⟨64, 0⟩) = VA - ⟨64, 0⟩ by ext <;> simp <;> grind] at this
  refine ⟨a, c, sq, b, e, f, d1, x, VA, a1, c1, a2.fin, c2.fin, s1, b1, e1, f1, d2, x1, x2.fin, a2, hVA64, ?_⟩
  by_cases hn2 : n = 1
  · have e1 : ri n - 1 = 0 := by rw [hn2, ri_vals.1]; decide +kernel
    rw [e1] at d3
    have hz := scale_zero f2 d3 x1
    obtain ⟨r', q1, q2⟩ := root_zero hz
    refine ⟨r', z0, q1, q2, ?_⟩
    rw [e1]
    have e : z0 - ⟨64 * 0, 0⟩ = (⟨0, 0⟩ : G) := by unfold z0; ext <;> simp <;> grind
    rw [e]
    exact Le.zero (by decide +kernel)
  · have hu := lag_under h hn (by omega) ha hc
    have hν2 : 2 ≤ ri n := by
      have : ((2 : Nat) : Rat) ≤ ((n : Nat) : Rat) := by exact_mod_cast (by omega : 2 ≤ n)
      exact this
    -- the square of a
    have hsq : Le (VS - Qa * Qa) (8/1000) one_ := by
      have h1 := a4.mul (hVA.add hQal)
      rw [mul_one] at h1
      have := (s4.add h1).mono (b := 8/1000) (by decide +kernel)
      rwa [show VS - VA * VA + (VA - Qa) * (VA + Qa) = VS - Qa * Qa by ext <;> simp <;> grind] at this
    have w1 : Le (VB - (Qa * Qa - Qc)) (9/1000) one_ := by
      have := ((b4.add hsq).sub c4).mono (b := 9/1000) (by decide +kernel)
      rwa [show VB - (VS - VC) + (VS - Qa * Qa) - (VC - Qc) = VB - (Qa * Qa - Qc) by ext <;> simp <;> grind] at this
    have w2 : Le (VE - sc (ri n) (Qa * Qa - Qc)) (39/1000) one_ := by
      have := (e5.add (w1.sc (k := ri n) (by grind))).mono (b := 39/1000) (by grind)
      rwa [show VE - sc (ri n) VB + sc (ri n) (VB - (Qa * Qa - Qc)) = VE - sc (ri n) (Qa * Qa - Qc) by generalize ri n = ν; ext <;> simp <;> grind] at this
    have w3 : Le (VF - (sc (ri n) (Qa * Qa - Qc) - Qa * Qa)) (50/1000) one_ := by
      have := ((f4.add w2).sub hsq).mono (b := 50/1000) (by decide +kernel)
      rwa [show VF - (VE - VS) + (VE - sc (ri n) (Qa * Qa - Qc)) - (VS - Qa * Qa) = VF - (sc (ri n) (Qa * Qa - Qc) - Qa * Qa) by generalize ri n = ν; ext <;> simp <;> grind] at this
    have w4 : Le (VX - sc (ri n - 1) (sc (ri n) (Qa * Qa - Qc) - Qa * Qa)) (20/100) one_ := by
      have := (x4.add (w3.sc (k := ri n - 1) (by grind))).mono (b := 20/100) (by grind)
      rwa [show VX - sc (ri n - 1) VF + sc (ri n - 1) (VF - (sc (ri n) (Qa * Qa - Qc) - Qa * Qa)) = VX - sc (ri n - 1) (sc (ri n) (Qa * Qa - Qc) - Qa * Qa) by generalize ri n = ν; ext <;> simp <;> grind] at this
    have w5 := w4.add hu
    rw [show VX - sc (ri n - 1) (sc (ri n) (Qa * Qa - Qc) - Qa * Qa) + (sc (ri n - 1) (sc (ri n) (Qa * Qa - Qc) - Qa * Qa) - ⟨4096 * ((ri n - 1) * (ri n - 1)), 0⟩) = VX - ⟨4096 * ((ri n - 1) * (ri n - 1)), 0⟩ by
      generalize sc (ri n - 1) (sc (ri n) (Qa * Qa - Qc) - Qa * Qa) = A; ext <;> simp <;> grind] at w5
    have hmm := mul_mono (show (0:Rat) ≤ 1 by grind) (show (0:Rat) ≤ 1 by grind) (show 1 ≤ ri n - 1 by grind) (show 1 ≤ ri n - 1 by grind)
    exact root_near x2 (by grind) (by grind) (w5.mono (by grind))
theorem inner_big {a b A B e e' : G} {m : Rat} (h1 : 1 ≤ m) (h3 : m ≤ 3) (hA : Le (A - ⟨64, 0⟩) (961/100) one_) (hB : Le (B - ⟨64 * m, 0⟩) (64 * m * (40/100)) one_) (ha : a = A + B + e) (hb : b = A - B + e') (he : Bd e (1/10000)) (he' : Bd e' (1/10000))
    (hlo : 18/100 * ((75 + 897/10 * m) * (75 + 897/10 * m)) ≤ 7350 * m) : N b ≤ 82/100 * N a := by
  have A1 := hA.bd
  have B1 := hB.bd
  have cA : Ab (A.x - 64) (961/100) ∧ Ab A.y (961/100) := by
    refine ⟨A1.1, ?_⟩
    have := A1.2
    simp only [sub_y] at this
    rwa [show A.y - 0 = A.y by grind] at this
  have cB : Ab (B.x - 64 * m) (256/10 * m) ∧ Ab B.y (256/10 * m) := by
    refine ⟨B1.1.mono (by grind), ?_⟩
    have := B1.2
    simp only [sub_y] at this
    rw [show B.y - 0 = B.y by grind] at this
    exact this.mono (by grind)
  have bxA : 5439/100 ≤ A.x ∧ A.x ≤ 7361/100 := by have := cA.1; unfold Ab at this; grind
  have bxB : 384/10 * m ≤ B.x ∧ B.x ≤ 896/10 * m := by have := cB.1; unfold Ab at this; grind
  have p1 := mul_mono (show (0:Rat) ≤ 5439/100 by decide +kernel) (show 0 ≤ 384/10 * m by grind) bxA.1 bxB.1
  have p2 := cA.2.mul cB.2
  -- the whole
  have hPx : Ab (A.x + B.x) (75 + 896/10 * m) := by unfold Ab; grind
  have hMx : Ab (A.x - B.x) 400 := by unfold Ab; grind
  have hPy : Ab (A.y + B.y) 400 := (cA.2.add cB.2).mono (by grind)
  have hMy : Ab (A.y - B.y) 400 := (cA.2.sub cB.2).mono (by grind)
  have q1 := (hPx.mono (show 75 + 896/10 * m ≤ 400 by grind)).mul he.1
  have q2 := hPy.mul he.2
  have q3 := hMx.mul he'.1
  have q4 := hMy.mul he'.2
  have q5 := he.1.mul he.1
  have q6 := he.2.mul he.2
  have q7 := he'.1.mul he'.1
  have q8 := he'.2.mul he'.2
  -- the length of the sum
  have hs : Le (A + B) (75 + 897/10 * m) one_ := by
    have h64 : Le (⟨64 + 64 * m, 0⟩ : G) (64 + 64 * m) one_ := le_one (by grind) (by unfold N; grind)
    have := ((hA.add hB).add h64).mono (b := 75 + 897/10 * m) (by grind)
    rwa [show A - ⟨64, 0⟩ + (B - ⟨64 * m, 0⟩) + ⟨64 + 64 * m, 0⟩ = A + B by ext <;> simp <;> grind] at this
  have hs2 := of_le_one hs
  have eN : N a = N (A + B) + 2 * ((A.x + B.x) * e.x) + 2 * ((A.y + B.y) * e.y) + e.x * e.x + e.y * e.y := by
    rw [ha]; unfold N; simp only [add_x, add_y]; grind
  have eM : N b = N (A + B) - 4 * (A.x * B.x + A.y * B.y) + 2 * ((A.x - B.x) * e'.x) + 2 * ((A.y - B.y) * e'.y) + e'.x * e'.x + e'.y * e'.y := by
    rw [hb]; unfold N; simp only [add_x, add_y, sub_x, sub_y]; grind
  rw [eN, eM]
  clear eN eM ha hb hs h3 A1 B1 cA cB bxA bxB hPx hMx hPy hMy he he' hA hB
  generalize (A.x + B.x) * e.x = w1 at *
  generalize (A.y + B.y) * e.y = w2 at *
  generalize (A.x - B.x) * e'.x = w3 at *
  generalize (A.y - B.y) * e'.y = w4 at *
  generalize e.x * e.x = w5 at *
  generalize e.y * e.y = w6 at *
  generalize e'.x * e'.x = w7 at *
  generalize e'.y * e'.y = w8 at *
  generalize A.x * B.x = w9 at *
  generalize A.y * B.y = w10 at *
  generalize N (A + B) = w11 at *
  generalize (75 + 897/10 * m) * (75 + 897/10 * m) = w12 at *
  unfold Ab at *
  grind
theorem laguerre_R {n i : Nat} {r : Nat → G} {D S T V S1 T1 : G} (h : NearV n i r D S T V S1 T1) (hn : n ≤ 4) (hn1 : 1 ≤ n) {z v s t : C} (hz : RC z (r i + u64)) (hZ : Le (r i + u64) (23/10) one_) (hv : RC v V) (hs : RC s S1) (ht : RC t T1) :
    ∃ a c sq b e f d1 x r' g h' lg lh gg q rr big, Lag (n + 1) z v s t a c sq b e f d1 x r' g h' lg lh gg q rr big ∧ ∃ W, RC rr W ∧ N (W - r i) ≤ 9/1000 * (9/1000) := by
  obtain ⟨a, c, sq, b, e, f, d1, x, VA, k1, k2, k3, k4, k5, k6, k7, k8, k9, k10, k11, k12, k13, r', Rv, k14, k15, k16⟩ := lag_chain h hn hn1 hv hs ht
  obtain ⟨r1, r4⟩ := ri_range hn hn1
  obtain ⟨m, hm⟩ : ∃ m, m = ri n - 1 := ⟨_, rfl⟩
  rw [← hm] at k16
  have hm0 : 0 ≤ m ∧ m ≤ 3 := by grind
  have h64 : Le (⟨64, 0⟩ : G) 64 one_ := le_one (by grind) (by decide +kernel)
  have h64m : Le (⟨64 * m, 0⟩ : G) (64 * m) one_ := le_one (by grind) (by unfold N; grind)
  have hA : Le VA 75 one_ := by
    have := (k13.add h64).mono (b := 75) (by decide +kernel)
    rwa [show VA - ⟨64, 0⟩ + ⟨64, 0⟩ = VA by ext <;> simp <;> grind] at this
  have hR : Le Rv 270 one_ := by
    have := (k16.add h64m).mono (b := 270) (by grind)
    rwa [show Rv - ⟨64 * m, 0⟩ + ⟨64 * m, 0⟩ = Rv by ext <;> simp <;> grind] at this
  obtain ⟨g, VG, g1, g2, g3⟩ := plusO_R k12 k15 (hA.add hR).bd (by decide +kernel) (by decide +kernel)
  obtain ⟨h', VH, h1, h2, h3⟩ := minusO_R k12 k15 (hA.sub hR).bd (by decide +kernel) (by decide +kernel)
  have g3' := g3.mono (show (75 + 270) * e24 ≤ 1/10000 by decide +kernel)
  have h3' := h3.mono (show (75 + 270) * e24 ≤ 1/10000 by decide +kernel)
  have hVG : Le VG 346 one_ := by
    have := ((bd_le g3').add (hA.add hR)).mono (b := 346) (by decide +kernel)
    rwa [show VG - (VA + Rv) + (VA + Rv) = VG by ext <;> simp <;> grind] at this
  have hVH : Le VH 346 one_ := by
    have := ((bd_le h3').add (hA.sub hR)).mono (b := 346) (by decide +kernel)
    rwa [show VH - (VA - Rv) + (VA - Rv) = VH by ext <;> simp <;> grind] at this
  obtain ⟨lg, LG, lg1, lg2, lg3, lg4, lg5⟩ := longO_R g2 (of_le_one hVG) (by decide +kernel) (by decide +kernel)
  have hlh : ∃ lh LH, longO h' = some lh ∧ R single lh LH ∧ (2 ≤ n → LH ≤ LG) := by
    obtain ⟨lh, LH, lh1, lh2, lh3, lh4, lh5⟩ := longO_R h2 (of_le_one hVH) (by decide +kernel) (by decide +kernel)
    refine ⟨lh, LH, lh1, lh2, fun hn2 => ?_⟩
    have hm1 : 1 ≤ m := by
      have : ((2 : Nat) : Rat) ≤ ((n : Nat) : Rat) := by exact_mod_cast hn2
      have : (2 : Rat) ≤ ri n := this
      grind
    have hlo : 18/100 * ((75 + 897/10 * m) * (75 + 897/10 * m)) ≤ 7350 * m := by
      have : n = 2 ∨ n = 3 ∨ n = 4 := by omega
      obtain ⟨q1, q2, q3, q4⟩ := ri_vals
      rcases this with rfl | rfl | rfl
      · have : m = 1 := by rw [hm, q2]; decide +kernel
        rw [this]; decide +kernel
      · have : m = 2 := by rw [hm, q3]; decide +kernel
        rw [this]; decide +kernel
      · have : m = 3 := by rw [hm, q4]; decide +kernel
        rw [this]; decide +kernel
    have hbig := inner_big (a := VG) (b := VH) (e := VG - (VA + Rv)) (e' := VH - (VA - Rv)) hm1 hm0.2 k13 k16 (by ext <;> simp <;> grind) (by ext <;> simp <;> grind) g3' h3' hlo
    have hNG : 1 ≤ N VG := by
      have hb := (k13.add k16).bd
      have hg := g3'.1
      have hx : 1 ≤ VG.x := by
        have := hb.1
        simp only [add_x, sub_x] at this hg
        unfold Ab at *
        grind
      have := mul_mono (show (0:Rat) ≤ 1 by grind) (show (0:Rat) ≤ 1 by grind) hx hx
      have := N_x VG
      grind
    obtain ⟨bb, b1, b2, b3⟩ := near_sq' hNG (Rat.le_trans (of_le_one hVG) (by decide +kernel))
    have ty : tiny * 2 ≤ 95/100 := by decide +kernel
    have y1 := lg5 bb (by grind) b2
    obtain ⟨lh', LH', y2, y3, y4, y5, _⟩ := longO_R h2 (B := 95/100 * bb) (by grind) (by grind) (by
      have : (4000000:Rat) ≤ huge := by decide +kernel
      have := of_le_one hVG
      grind)
    have e1 : lh' = lh := Option.some.inj (y2.symm.trans lh1)
    subst e1
    have e2 := R_inj y3 lh2
    subst e2
    have e5 : e24 ≤ 1/1000000 := by decide +kernel
    have z1 := Rat.mul_le_mul_of_nonneg_left (show 1 - 4/1000000 ≤ 1 - 4 * e24 by grind) (show 0 ≤ bb by grind)
    have z2 := Rat.mul_le_mul_of_nonneg_left (show 1 + 4 * e24 ≤ 1 + 4/1000000 by grind) (show 0 ≤ 95/100 * bb by grind)
    grind
  obtain ⟨lh, LH, lh1, lh2, lh3⟩ := hlh
  obtain ⟨big, hbig⟩ : ∃ big, big = (FloatKind.f32.format.order lh lg == some .gt) := ⟨_, rfl⟩
  have hgg : ∃ gg GG, gg = (if big then h' else g) ∧ RC gg GG ∧ Le (GG - ⟨64 * ri n, 0⟩) (962/100 + 64 * m * (40/100)) one_ := by
    have hG : Le (VG - ⟨64 * ri n, 0⟩) (962/100 + 64 * m * (40/100)) one_ := by
      have := (((bd_le g3').add k13).add k16).mono (b := 962/100 + 64 * m * (40/100)) (by grind)
      rwa [show VG - (VA + Rv) + (VA - ⟨64, 0⟩) + (Rv - ⟨64 * m, 0⟩) = VG - ⟨64 * ri n, 0⟩ by rw [hm]; ext <;> simp <;> grind] at this
    by_cases hb : big = true
    · have hn2 : n = 1 := by
        by_cases e : n = 1
        · exact e
        · exfalso
          have := lh3 (by omega)
          rw [hbig, show FloatKind.f32.format.order lh lg = single.order lh lg from rfl, order_gt lh2 lg2] at hb
          simp at hb
          grind
      have hm1 : m = 0 := by rw [hm, hn2, ri_vals.1]; decide +kernel
      refine ⟨h', VH, by simp [hb], h2, ?_⟩
      have := (((bd_le h3').add k13).sub k16).mono (b := 962/100 + 64 * m * (40/100)) (by grind)
      rwa [show VH - (VA - Rv) + (VA - ⟨64, 0⟩) - (Rv - ⟨64 * m, 0⟩) = VH - ⟨64 * ri n, 0⟩ by
        have : ri n = 1 := by rw [hn2]; exact ri_vals.1
        rw [hm1, this]; ext <;> simp <;> grind] at this
    · refine ⟨g, VG, by simp [hb], g2, hG⟩
  obtain ⟨gg, GG, gg1, gg2, gg3⟩ := hgg
  -- the last quotient
  have hnu : Le (⟨64 * ri n, 0⟩ : G) (64 * ri n) one_ := le_one (by grind) (by unfold N; grind)
  obtain ⟨κ, hκ⟩ : ∃ κ : Rat, κ * (64 * ri n) = 962/100 + 64 * m * (40/100) := ⟨(962/100 + 64 * m * (40/100)) / (64 * ri n), div_mul_self (by grind)⟩
  have hκ0 : 0 ≤ κ := le_of_mul (show 0 < 64 * ri n by grind) (by grind)
  have hκ1 : κ ≤ 343/1000 := le_of_mul (show 0 < 64 * ri n by grind) (by grind)
  have hrelD : Le (GG - ⟨64 * ri n, 0⟩) (343/1000) ⟨64 * ri n, 0⟩ := by
    refine ⟨by decide +kernel, ?_⟩
    have h1 := of_le_one gg3
    rw [← hκ] at h1
    have e : N (⟨64 * ri n, 0⟩ : G) = 64 * ri n * (64 * ri n) := by unfold N; grind
    rw [e]
    have := mul_mono (show 0 ≤ κ * (64 * ri n) from Rat.mul_nonneg hκ0 (by grind)) (show 0 ≤ κ * (64 * ri n) from Rat.mul_nonneg hκ0 (by grind)) (Rat.mul_le_mul_of_nonneg_right hκ1 (show 0 ≤ 64 * ri n by grind)) (Rat.mul_le_mul_of_nonneg_right hκ1 (show 0 ≤ 64 * ri n by grind))
    grind
  have hinv : Le (⟨64 * ri n, 0⟩ : G) (1523/1000) GG := hrelD.inv (by decide +kernel) (by decide +kernel) (by decide +kernel)
  have hlow : Le one_ (1/64) (⟨64 * ri n, 0⟩ : G) := by
    refine ⟨by decide +kernel, ?_⟩
    rw [N_one]
    have e : N (⟨64 * ri n, 0⟩ : G) = 64 * ri n * (64 * ri n) := by unfold N; grind
    rw [e]
    have := mul_mono (show (0:Rat) ≤ 1 by grind) (show (0:Rat) ≤ 1 by grind) r1 r1
    grind
  have hGpos := N_pos (hlow.trans hinv)
  have hG1 : 1 ≤ N GG := N_ge (hlow.trans hinv) (by decide +kernel)
  have hG2 : N GG ≤ 1000000 := by
    have := of_le_one ((gg3.add hnu).mono (b := 500) (by grind))
    rw [show GG - ⟨64 * ri n, 0⟩ + ⟨64 * ri n, 0⟩ = GG by ext <;> simp <;> grind] at this
    grind
  obtain ⟨Q, hQ⟩ := gdiv (⟨ri n, 0⟩ : G) (show N GG ≠ 0 by grind)
  have hrel : Le (sc 64 Q - one_) (57/100) one_ := by
    have h1 := (hrelD.trans hinv).neg
    rw [show -(GG - ⟨64 * ri n, 0⟩) = (sc 64 Q - one_) * GG by
      have e : (⟨64 * ri n, 0⟩ : G) = sc 64 (⟨ri n, 0⟩ : G) := by ext <;> simp <;> grind
      rw [e, ← hQ]; unfold one_; ext <;> simp <;> grind] at h1
    exact (h1.cancel hGpos).mono (by decide +kernel)
  have hQb : Bd Q 1 := by
    have h1 := (hrel.add (Le.self one_)).sc (k := 1/64) (by decide +kernel)
    rw [show sc (1/64) (sc 64 Q - one_ + one_) = Q by unfold one_; ext <;> simp <;> grind] at h1
    exact (h1.mono (b := 1) (by decide +kernel)).bd
  have hnR : R single (floatOfInt .f32 (((n + 1 : Nat) : Int) - 1)) (ri n) := by
    have := i32_R (k := n) (by omega)
    rwa [show ((n + 1 : Nat) : Int) - 1 = (n : Int) by omega]
  obtain ⟨q, Vq, q1, q2, q3⟩ := quot_R (u := (floatOfInt .f32 (((n + 1 : Nat) : Int) - 1), 0)) (X := ⟨ri n, 0⟩) ⟨hnR, R_00⟩ gg2 hQ hQb (by decide +kernel) (by decide +kernel) (by grind) (by grind)
  obtain ⟨rr, W, w1, w2, w3⟩ := sub_R hz hZ q2 (q3.mono (by decide +kernel)) hrel
  exact ⟨a, c, sq, b, e, f, d1, x, r', g, h', lg, lh, gg, q, rr, big, ⟨k1, k2, k3, k4, k5, k6, k7, k8, k9, k10, k11, k14, g1, h1, lg1, lh1, hbig.symm, gg1, q1, q2.fin, w1, w2.fin⟩, W, w2, w3⟩
end Go.Proofs.YtlhdgbiaiacpfaaGreat
