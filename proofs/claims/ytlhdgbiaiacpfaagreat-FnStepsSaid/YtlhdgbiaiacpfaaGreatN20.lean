/- What the law on steps asks of the drawn roots. -/
import Derived.Test.YtlhdgbiaiacpfaaGreatN19
namespace Go.Proofs.YtlhdgbiaiacpfaaGreat
open Go.RowKit Num Ieee
open G
def RootOk (ys : List C) (z : C) : Prop :=
  ∃ v0 near ys1 ys2 v s t, AtRoot ys z v0 ∧ Off z z ∧ plusO z (1015021568, 0) = some near ∧ Vals ys ys1 ys2 near v s t ∧
    (∃ q st, Step ys ys1 near v s q st ∧ Off st z) ∧
    (∃ vs a ss b vt d q w, Hal near v s t vs a ss b vt d q w ∧ Off w z) ∧
    (∃ a c sq b e f d1 x r g h lg lh gg q rr big, Lag ys.length near v s t a c sq b e f d1 x r g h lg lh gg q rr big ∧ Off rr z)
theorem root_ok {r : Nat → G} {n i : Nat} {ys : List C} {z : C} (hn : n ≤ 4) (hi : i < n) (hrt : ∀ i, i < n → Rt i (r i)) (hl : ys.length = n + 1) (h : Rl ys (cf r n)) (hz : RC z (r i)) : RootOk ys z := by
  obtain ⟨v0, a1, a2⟩ := at_root hn hi hrt hl h hz
  obtain ⟨near, b1, b2, b3⟩ := near_R (by omega) (hrt i hi) hz
  obtain ⟨ys1, ys2, v, s, t, D, S, T, V, S1, T1, c1, c2, c3, c4, c5⟩ := near_vals hn hi hrt hl h b2 b3
  have ez : N (r i - r i) ≤ 9/1000 * (9/1000) := by
    have : N (r i - r i) = 0 := by unfold N; simp only [sub_x, sub_y]; grind
    rw [this]; decide +kernel
  obtain ⟨q, st, d1, d2, d3, d4, W, d5, d6⟩ := newton_R c5 hn (by omega) b2 b3 c2 c3
  obtain ⟨vs, a, ss, b, vt, d, q', w, e1, W2, e2, e3⟩ := halley_R c5 hn (by omega) b2 b3 c2 c3 c4
  obtain ⟨a', c, sq, b', e, f, d1', x, r', g, h', lg, lh, gg, q'', rr, big, f1, W3, f2, f3⟩ := laguerre_R c5 hn (by omega) b2 b3 c2 c3 c4
  refine ⟨v0, near, ys1, ys2, v, s, t, a1, off_R hz hz ez, b1, c1, ⟨q, st, ⟨c1.finz, c1.horner, c1.finv, c1.nz, c1.slope, c1.valid, c1.horners, c1.fins, d1, d2, d3, d4⟩, off_R d5 hz d6⟩,
    ⟨vs, a, ss, b, vt, d, q', w, e1, off_R e2 hz e3⟩, ⟨a', c, sq, b', e, f, d1', x, r', g, h', lg, lh, gg, q'', rr, big, by rw [hl]; exact f1, off_R f2 hz f3⟩⟩
/-- The point that a law chooses: quarters. -/
def quarterW (x : Int) : Option Nat := div32 (floatOfInt .f32 (x - 4)) 1082130432
theorem quarter_vals : (List.range 9).all (fun x => match quarterW x with | some q => chk single q (((x:Int):Rat) / 4 - 1) | none => false) = true := by decide +kernel
theorem quarter_R {x : Int} (h0 : 0 ≤ x) (h1 : x < 9) : ∃ q, quarterW x = some q ∧ R single q ((x:Rat) / 4 - 1) := by
  obtain ⟨k, rfl⟩ := Int.eq_ofNat_of_zero_le h0
  have h := quarter_vals
  rw [List.all_eq_true] at h
  have h2 := h k (by simp; omega)
  cases hq : quarterW (k : Int) with
  | none => rw [hq] at h2; cases h2
  | some q => rw [hq] at h2; exact ⟨q, rfl, chk_R h2⟩
theorem quarter_on (x : Int) : On (-3) ((x:Rat) / 4 - 1) := by
  have h := on3 (2 * x - 8)
  have e : ((2 * x - 8 : Int) : Rat) / 8 = (x:Rat) / 4 - 1 := by push_cast; grind
  rwa [e] at h
def EndOk (ys : List C) (z : C) : Prop :=
  ∃ rs qs v d lv wl s p l a q b, divO [(neg32 z.1, neg32 z.2), one] ys (ys.length - 1) (ys.length - 1) = some (rs, qs) ∧ qs.length = ys.length - 1 ∧ VP qs ∧ VP [at_ rs 0] ∧ VP [(neg32 z.1, neg32 z.2), one] ∧
    hornerO ys z = some v ∧ FinC z ∧ FinC v ∧ Miss ys z v l lv a q b ∧ minusO (at_ rs 0) v = some d ∧ longO d = some 0 ∧ wid 0 = some 0 ∧ longO v = some lv ∧ wid lv = some wl ∧
    add64 4607182418800017408 wl = some s ∧ mul64 4562254508917369340 s = some p ∧ FloatKind.f64.format.order 0 p = some .lt
theorem thousandth_R : R double 4562254508917369340 (1152921504606847/1152921504606846976) := chk_R (by decide +kernel)
theorem end_ok {r : Nat → G} {n : Nat} {ys : List C} {x y : Int} (hn : n ≤ 4) (hn1 : 1 ≤ n) (hrt : ∀ i, i < n → Rt i (r i)) (hl : ys.length = n + 1) (h : Rl ys (cf r n)) (hx0 : 0 ≤ x) (hx1 : x < 9) (hy0 : 0 ≤ y) (hy1 : y < 9) :
    ∃ a b, quarterW x = some a ∧ quarterW y = some b ∧ EndOk ys (a, b) := by
  obtain ⟨a, a1, a2⟩ := quarter_R hx0 hx1
  obtain ⟨b, b1, b2⟩ := quarter_R hy0 hy1
  refine ⟨a, b, a1, b1, ?_⟩
  have hz : RC (a, b) ⟨(x:Rat) / 4 - 1, (y:Rat) / 4 - 1⟩ := ⟨a2, b2⟩
  have ab1 : ∀ x : Int, 0 ≤ x → x < 9 → Ab ((x:Rat) / 4 - 1) 1 := by
    intro x h0 h1
    have c1 : ((0:Int):Rat) ≤ (x:Rat) := by exact_mod_cast h0
    have c2 : (x:Rat) ≤ ((8:Int):Rat) := by exact_mod_cast (by omega : x ≤ 8)
    have e0 : ((0:Int):Rat) = 0 := rfl
    have e8 : ((8:Int):Rat) = 8 := rfl
    unfold Ab
    constructor <;> grind
  have hb : Bd (⟨(x:Rat) / 4 - 1, (y:Rat) / 4 - 1⟩ : G) 1 := ⟨ab1 x hx0 hx1, ab1 y hy0 hy1⟩
  have hZ : Le (⟨(x:Rat) / 4 - 1, (y:Rat) / 4 - 1⟩ : G) (3/2) one_ := (bd_le hb).mono (by decide +kernel)
  have hg : OnG (-3) (⟨(x:Rat) / 4 - 1, (y:Rat) / 4 - 1⟩ : G) := ⟨quarter_on x, quarter_on y⟩
  obtain ⟨rs, qs, d1, d2, d3, d4, d5, d6⟩ := leave_R hn hn1 hrt hl h hz (hZ.mono (by decide +kernel)) hg
  obtain ⟨v, v1, v2⟩ := value_on hn hrt hl h hz (hZ.mono (by decide +kernel)) hg
  have hV : N (P0 r n ⟨(x:Rat) / 4 - 1, (y:Rat) / 4 - 1⟩) ≤ 1000 * 1000 := by
    have h1 := (Hz_le n (cf_le n hn hrt) (hZ.mono (b := 2) (by decide +kernel)) n).mono (hb_2 n (by omega) n (by omega) (Nat.le_refl _))
    exact Rat.le_trans (of_le_one h1) (by decide +kernel)
  obtain ⟨lv, l, s, bb, q, e1, e2, e3⟩ := miss_at hn hrt hl h hz (hZ.mono (by decide +kernel)) hg v1 v2 hV
  have eZ : P0 r n (⟨(x:Rat) / 4 - 1, (y:Rat) / 4 - 1⟩ : G) - P0 r n ⟨(x:Rat) / 4 - 1, (y:Rat) / 4 - 1⟩ = z0 := by unfold z0; ext <;> simp <;> grind
  obtain ⟨d, m1, m2⟩ := minusO_on (B := 1) (t := 0) d5 v2 (by rw [eZ]; exact ⟨Ab.zero (by grind), Ab.zero (by grind)⟩) (by rw [eZ]; exact ⟨On.zero _, On.zero _⟩) (by omega) (by decide +kernel) (by decide +kernel)
  rw [eZ] at m2
  obtain ⟨lv', LV, f1, f2, f3, f4, _⟩ := longO_R v2 hV (by decide +kernel) (by decide +kernel)
  have ee : lv' = lv := Option.some.inj (f1.symm.trans e1)
  subst ee
  obtain ⟨wl, g1, g2⟩ := wid_R f2
  have e4 : e24 ≤ 1 := by decide +kernel
  have f5 : LV ≤ 5000 := by
    have := Rat.mul_le_mul_of_nonneg_left (show 1 + 4 * e24 ≤ 5 by grind) (show (0:Rat) ≤ 1000 by decide +kernel)
    grind
  obtain ⟨s', S', s1, s2, s3, s4, _⟩ := add64_R one64_R g2 (B := 10000) (by unfold Ab; grind) (by decide +kernel) (by decide +kernel)
  have e5 : e53 ≤ 1/1000000 := by decide +kernel
  have s5 : 1/2 ≤ S' ∧ S' ≤ 10000 := by unfold Ab at s3; grind
  have c1 : (1:Rat)/2000 ≤ 1152921504606847/1152921504606846976 ∧ (1152921504606847/1152921504606846976 : Rat) ≤ 1/500 := by decide +kernel
  have p0 := mul_mono (show (0:Rat) ≤ 1/2000 by decide +kernel) (show (0:Rat) ≤ 1/2 by decide +kernel) c1.1 s5.1
  have p1 := mul_mono (show (0:Rat) ≤ 1152921504606847/1152921504606846976 by decide +kernel) (show 0 ≤ S' by grind) c1.2 s5.2
  obtain ⟨p, PP, q1, q2, q3, q4, _⟩ := mul64_R thousandth_R s2 (B := 100) (by unfold Ab; grind) (by decide +kernel) (by decide +kernel)
  have q5 : 0 < PP := by unfold Ab at q3; grind
  refine ⟨rs, qs, v, d, lv', wl, s', p, l, s, q, bb, ?_, ?_, d3, d4, d6, v1, hz.fin, v2.fin, e2, m1, longO_zero m2, by decide +kernel, f1, g1, s1, q1, (order_R zero64_R q2).1 q5⟩
  · rw [show ys.length - 1 = n by omega]; exact d1
  · omega
/-- All that the law on steps asks of the roots. -/
structure StepsOk (rs ys : List C) (bs : Nat → Bool) : Prop where
  pr : prO rs rs.length = some ys
  vp : VP ys
  len : ys.length = rs.length + 1
  fin : AllFin rs
  miss : ∀ i, i < rs.length → ∃ v l a, Miss ys (at_ rs i) v l 0 a 0 (bs i)
  root : ∀ i, i < rs.length → RootOk ys (at_ rs i)
  ends : ∀ x y : Int, 0 ≤ x → x < 9 → 0 ≤ y → y < 9 → ∃ a b, quarterW x = some a ∧ quarterW y = some b ∧ EndOk ys (a, b)
theorem steps_ok {rs : List C} (h : Drawn rs) (h1 : 1 ≤ rs.length) (h4 : rs.length ≤ 4) : ∃ ys bs, StepsOk rs ys bs := by
  obtain ⟨r, hr⟩ := h.roots h4
  obtain ⟨ys, p1, p2, p3⟩ := prO_R h4 hr rs.length (Nat.le_refl _)
  have hm : ∀ i, ∃ b, i < rs.length → ∃ v l a, Miss ys (at_ rs i) v l 0 a 0 b := by
    intro i
    by_cases hi : i < rs.length
    · have hz := hr.rc i hi
      obtain ⟨v0, a1, a2⟩ := at_root h4 hi hr.rt p2 p3 hz
      obtain ⟨lv, l, a, b, q, m1, m2, m3⟩ := miss_at h4 hr.rt p2 p3 hz (rt_23 (hr.rt i hi) (by omega)) (hr.rt i hi).on a1.horner a2 (by
        have : N z0 = 0 := by unfold N z0; grind
        rw [this]; decide +kernel)
      rw [longO_zero a2] at m1
      cases m1
      have := m3 rfl
      subst this
      exact ⟨b, fun _ => ⟨v0, l, a, m2⟩⟩
    · exact ⟨false, fun h => absurd h hi⟩
  refine ⟨ys, fun i => (hm i).choose, p1, ?_, p2, fun i hi => (hr.rc i hi).fin, fun i hi => (hm i).choose_spec hi, fun i hi => root_ok h4 hi hr.rt p2 p3 (hr.rc i hi), fun x y hx0 hx1 hy0 hy1 => end_ok h4 h1 hr.rt p2 p3 hx0 hx1 hy0 hy1⟩
  refine VP_of p2 (by omega) p3 (.inr (.inl ?_))
  rw [cf_top]; unfold one_; decide +kernel
end Go.Proofs.YtlhdgbiaiacpfaaGreat
