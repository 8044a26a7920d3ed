/- What is left of a polynomial when a point is left, exactly. -/
import Derived.Test.YtlhdgbiaiacpfaaGreatN18
import Derived.Test.YtlhdgbiaiacpfaaGreatW23
namespace Go.Proofs.YtlhdgbiaiacpfaaGreat
open Go.RowKit Num Ieee
open G
theorem quotient_one (s : Bool) (m : Nat) (i : Int) (hm : m < 2 ^ 53) : ∃ s' m' p', (Datum.number s m i).quotient 54 (.number false (2 ^ 52) (-52)) = some (.number s' m' p') ∧ vD (.number s' m' p') = vD (.number s m i) := by
  obtain ⟨more, hmore⟩ : ∃ more, more = 54 + 52 - m.log2 := ⟨_, rfl⟩
  have hl : m.log2 ≤ 52 := by
    rcases Nat.eq_zero_or_pos m with e | e
    · subst e; simp
    · have := (Nat.log2_lt (by omega : m ≠ 0)).2 hm
      omega
  have h52 : (2 ^ 52 : Nat).log2 = 52 := Nat.log2_two_pow
  have e1 : m * 2 ^ more = m * 2 ^ (more - 52) * 2 ^ 52 := by rw [Nat.mul_assoc, ← Nat.pow_add]; congr 2; omega
  have hd : m <<< more / 2 ^ 52 = m * 2 ^ (more - 52) := by rw [Nat.shiftLeft_eq, e1, Nat.mul_div_cancel _ (Nat.two_pow_pos _)]
  have hr : m <<< more % 2 ^ 52 = 0 := by rw [Nat.shiftLeft_eq, e1, Nat.mul_mod_left]
  refine ⟨s, 2 * (m * 2 ^ (more - 52)) + 0, i + 52 - more - 1, ?_, ?_⟩
  · have hne : (2 ^ 52 : Nat) ≠ 0 := by decide
    unfold Datum.quotient
    simp only []
    rw [if_neg hne]
    simp only [h52, ← hmore, hd, hr]
    cases s
    · rw [show i - -52 - (more : Int) - 1 = i + 52 - more - 1 by omega]; rfl
    · rw [show i - -52 - (more : Int) - 1 = i + 52 - more - 1 by omega]; rfl
  · simp only [vD, Nat.add_zero, Rat.natCast_mul, pow_cast]
    have e2 : ((2:Nat):Rat) = (2:Rat)^(1:Int) := by decide +kernel
    rw [e2]
    have e3 : (2:Rat)^(1:Int) * (m * (2:Rat)^(((more - 52 : Nat)) : Int)) * (2:Rat)^(i + 52 - more - 1) = m * (2:Rat)^i := by
      rw [show (2:Rat)^(1:Int) * (m * (2:Rat)^(((more - 52 : Nat)) : Int)) * (2:Rat)^(i + 52 - more - 1) = m * ((2:Rat)^(1:Int) * (2:Rat)^(((more - 52 : Nat)) : Int) * (2:Rat)^(i + 52 - more - 1)) by grind,
        ← Rat.zpow_add (by decide), ← Rat.zpow_add (by decide)]
      congr 2; omega
    rw [Rat.mul_assoc, e3]
    grind
theorem rep_d {a : Nat} {x : Rat} (h : R double a x) : ∃ (k : Int) (t : Int), x = (k : Rat) * (2:Rat)^t ∧ k.natAbs < 2 ^ (double.fractionBits + 1) ∧ double.leastPlace ≤ t := by
  obtain ⟨s, m, p, h1, h2⟩ := h
  obtain ⟨h3, h4⟩ := read_d h1
  refine ⟨if s then -(m:Int) else m, p, ?_, ?_, h4⟩
  · rw [← h2]
    cases s
    · simp [vD, Rat.intCast_natCast]
    · simp [vD, Rat.intCast_natCast]; grind
  · have : (2:Nat)^53 ≤ 2 ^ (double.fractionBits + 1) := Nat.pow_le_pow_right (by omega) (by decide)
    cases s <;> simp <;> omega
theorem div64_one {a : Nat} {x : Rat} (h : R double a x) (hb : Ab x huge) : ∃ w, div64 a one64 = some w ∧ R double w x := by
  have hrep := rep_d h
  obtain ⟨s, m, p, h1, h2⟩ := h
  obtain ⟨h3, h4⟩ := read_d h1
  obtain ⟨s', m', p', q1, q2⟩ := quotient_one s m p h3
  rw [h2] at q2
  have hlt := ab_lt hb (Rat.le_refl) huge_d1
  obtain ⟨v, hR, hN⟩ := write_near double fits_d.hf s' m' p' 970 fits_d.hE fits_d.hov (mag_lt (s := s') (by rw [q2]; exact hlt.1) (by rw [q2]; exact hlt.2))
  rw [q2] at hN
  obtain ⟨k, t, k1, k2, k3⟩ := hrep
  have hv : v = x := hN.exact_ k t k1 k2 k3
  subst hv
  refine ⟨_, ?_, hR⟩
  show double.div a one64 = _
  have ho : double.read one64 = .number false (2 ^ 52) (-52) := by decide +kernel
  unfold Format.div
  rw [h1, ho]
  show Option.map double.write ((Datum.number s m p).quotient 54 (.number false (2 ^ 52) (-52))) = _
  rw [q1]
  rfl
theorem one_R : RC one one_ := ⟨chk_R (by decide +kernel), R_00⟩
theorem power_one : powerO one = some one64 := by decide +kernel
theorem quotO_one {u : C} {X : G} {B : Rat} {t : Int} (hu : RC u X) (ho : OnG t X) (ht : -149 ≤ t) (ht0 : t ≤ 0) (hb : Bd X B) (h1 : 2 * B < (2:Rat)^(24 + t)) (h2 : 2 * B ≤ huge) : ∃ q, quotO u one = some q ∧ RC q X := by
  have hB := hb.nn
  have hc : RC (conjC one) (conj one_) := conj_R one_R
  have ec : X * conj one_ = X := by unfold one_; ext <;> simp <;> grind
  have hone : Bd (conj one_) 1 := ⟨by unfold one_ Ab; simp; grind, by unfold one_ Ab; simp; grind⟩
  have hpm := pw_mono (show 24 + t ≤ 53 + (t + 0) by omega)
  obtain ⟨w, w1, w2⟩ := timesO_on (s := 0) hu hc hb hone ho ⟨On.int 1, by
    have : (conj one_).y = 0 := by unfold one_; simp <;> decide +kernel
    rw [this]; exact On.zero 0⟩ (by omega) (by grind) (by grind)
  rw [ec] at w2
  obtain ⟨a, a1, a2⟩ := div64_one w2.1 (hb.1.mono (by grind))
  obtain ⟨b, b1, b2⟩ := div64_one w2.2 (hb.2.mono (by grind))
  obtain ⟨q, V, q1, q2, q3, q4⟩ := narC_R (t := (a, b)) ⟨a2, b2⟩ hb (by grind)
  have e1 := near_on_s q3 ho.1 hb.1 (by grind) ht
  have e2 := near_on_s q4 ho.2 hb.2 (by grind) ht
  have e : V = X := G.ext e1 e2
  subst e
  exact ⟨q, by simp [quotO, w1, power_one, a1, b1, q1], q2⟩
theorem at_set' {xs : List C} {k j : Nat} {x : C} (hk : k < xs.length) : at_ (xs.set k x) j = if k = j then x else at_ xs j := at_set hk
/-- The division by the variable less Z, step by step. -/
theorem divO_R {a : List C} {f : Nat → G} {m : Nat} {z : C} {Z : G} {b : Nat → Rat} (hl : a.length = m + 1) (h : Rl a f) (hz : RC z Z) (hZ : Le Z 2 one_) (hf : ∀ k, Le (f k) (b k) one_)
    (hg : ∀ k, OnG (-3 * ((m - k : Nat) : Int)) (f k)) (hzg : OnG (-3) Z) (hm : m ≤ 4) (hbig : ∀ j, j ≤ m → hb b m 2 j ≤ 500) :
    ∀ j, j ≤ m → ∃ s, divO [(neg32 z.1, neg32 z.2), one] a m j = some s ∧ s.1.length = m + 1 ∧ s.2.length = m ∧
      (∀ k, k < m - j → at_ s.1 k = at_ a k) ∧ RC (at_ s.1 (m - j)) (Hz f m Z j) ∧ (∀ k, m - j ≤ k → k < m → RC (at_ s.2 k) (Hz f m Z (m - 1 - k))) := by
  have hgrid : ∀ j, j ≤ m → OnG (-3 * (j : Int)) (Hz f m Z j) := by
    intro j
    induction j with
    | zero => intro _; have := hg m; rwa [Nat.sub_self] at this
    | succ j ih =>
      intro hj
      show OnG _ (Hz f m Z j * Z + f (m - 1 - j))
      exact (((ih (by omega)).mul hzg).lower (by omega)).add ((hg _).lower (by omega))
  have hp12 : (4096:Rat) = (2:Rat)^(12:Int) := by decide +kernel
  have hhuge : (4096:Rat) ≤ huge := by decide +kernel
  have hnz : RC (neg32 z.1, neg32 z.2) (-Z) := ⟨neg32_R hz.1, neg32_R hz.2⟩
  have honeBd : Bd one_ 1 := ⟨by unfold one_ Ab; grind, by unfold one_ Ab; grind⟩
  have honeOn : OnG 0 one_ := ⟨On.int 1, On.zero 0⟩
  intro j
  induction j with
  | zero =>
    intro _
    exact ⟨(a, List.replicate m (0, 0)), rfl, hl, by simp, fun _ _ => rfl, h m (by omega), fun k hk hk2 => by omega⟩
  | succ j ih =>
    intro hj
    obtain ⟨s, s1, s2, s3, s4, s5, s6⟩ := ih (by omega)
    have hW := Hz_le m hf hZ j
    have hW1 := Hz_le m hf hZ (j + 1)
    have hb1 := hbig j (by omega)
    have hb2 := hbig (j + 1) hj
    have hbd := hW.bd.mono hb1
    have hpj : (4096:Rat) ≤ (2:Rat)^(24 + -3 * (j:Int)) := by rw [hp12]; exact pw_mono (by omega)
    have hpj1 : (4096:Rat) ≤ (2:Rat)^(24 + -3 * ((j + 1 : Nat):Int)) := by rw [hp12]; exact pw_mono (by omega)
    have hpj2 : (4096:Rat) ≤ (2:Rat)^(24 + (-3 * (j:Int) + -3)) := by rw [hp12]; exact pw_mono (by omega)
    have hpj3 : (4096:Rat) ≤ (2:Rat)^(24 + (-3 * (j:Int) + 0)) := by rw [hp12]; exact pw_mono (by omega)
    obtain ⟨q, q1, q2⟩ := quotO_one (t := -3 * (j : Int)) s5 (hgrid j (by omega)) (by omega) (by omega) hbd (by grind) (by grind)
    have hkm : m - 1 - j + 1 = m - j := by omega
    -- the first turn of the rest
    obtain ⟨p, p1, p2⟩ := mulO_on q2 hnz hbd (show Bd (-Z) 2 from ⟨hZ.bd.1.neg, hZ.bd.2.neg⟩) (hgrid j (by omega)) (show OnG (-3) (-Z) from ⟨hzg.1.neg, hzg.2.neg⟩) (by omega) (by grind) (by grind)
    have eN : f (m - 1 - j) - Hz f m Z j * -Z = Hz f m Z (j + 1) := by
      show _ = Hz f m Z j * Z + f (m - 1 - j)
      ext <;> simp <;> grind
    have ha : RC (at_ s.1 (m - 1 - j)) (f (m - 1 - j)) := by rw [s4 _ (by omega)]; exact h _ (by omega)
    obtain ⟨x, x1, x2⟩ := minusO_on (B := 500) ha p2 (by rw [eN]; exact hW1.bd.mono hb2) (t := -3 * ((j + 1 : Nat):Int)) (by rw [eN]; exact hgrid (j + 1) hj) (by omega) (by grind) (by grind)
    rw [eN] at x2
    -- the second turn
    obtain ⟨p', p1', p2'⟩ := mulO_on q2 one_R hbd honeBd (hgrid j (by omega)) honeOn (by omega) (by grind) (by grind)
    rw [mul_one] at p2'
    have h1 : at_ (s.1.set (m - 1 - j) x) (m - 1 - j + 1) = at_ s.1 (m - j) := by rw [at_set (by omega), if_neg (by omega), hkm]
    have eZ : Hz f m Z j - Hz f m Z j = z0 := by unfold z0; ext <;> simp <;> grind
    obtain ⟨x', x1', x2'⟩ := minusO_on (B := 1) (t := 0) s5 p2' (by rw [eZ]; exact ⟨Ab.zero (by grind), Ab.zero (by grind)⟩) (by rw [eZ]; exact ⟨On.zero _, On.zero _⟩) (by omega) (by decide +kernel) (by decide +kernel)
    refine ⟨((s.1.set (m - 1 - j) x).set (m - 1 - j + 1) x', s.2.set (m - 1 - j) q), ?_, by simp [s2], by simp [s3], ?_, ?_, ?_⟩
    · simp only [divO, s1, Option.bind_some, divStep, hkm]
      rw [show at_ [(neg32 z.1, neg32 z.2), one] 1 = one from rfl, q1]
      simp only [Option.bind_some, inO]
      rw [show at_ [(neg32 z.1, neg32 z.2), one] 0 = (neg32 z.1, neg32 z.2) from rfl, show at_ [(neg32 z.1, neg32 z.2), one] 1 = one from rfl, p1]
      simp only [Option.bind_some, Nat.add_zero, x1, p1']
      rw [h1, x1']
      simp only [Option.bind_some, hkm]
    · intro k hk
      show at_ ((s.1.set (m - 1 - j) x).set (m - 1 - j + 1) x') k = _
      rw [at_set (by simp; omega), if_neg (by omega), at_set (by omega), if_neg (by omega)]
      exact s4 k (by omega)
    · show RC (at_ ((s.1.set (m - 1 - j) x).set (m - 1 - j + 1) x') (m - (j + 1))) _
      rw [at_set (by simp; omega), if_neg (by omega), at_set (by omega), if_pos (by omega)]
      exact x2
    · intro k hk hk2
      show RC (at_ (s.2.set (m - 1 - j) q) k) _
      rw [at_set (by omega)]
      by_cases e : m - 1 - j = k
      · rw [if_pos e, show m - 1 - k = j by omega]; exact q2
      · rw [if_neg e]; exact s6 k (by omega) hk2
theorem hb_2 : ∀ n : Nat, n < 5 → ∀ j : Nat, j < 5 → j ≤ n → hb (bt n) n 2 j ≤ 500 := by decide +kernel
/-- What leaving a point of the grid asks. -/
theorem leave_R {r : Nat → G} {n : Nat} {ys : List C} {z : C} {Z : G} (hn : n ≤ 4) (hn1 : 1 ≤ n) (hrt : ∀ i, i < n → Rt i (r i)) (hl : ys.length = n + 1) (h : Rl ys (cf r n)) (hz : RC z Z) (hZ : Le Z 2 one_) (hg : OnG (-3) Z) :
    ∃ rs qs, divO [(neg32 z.1, neg32 z.2), one] ys n n = some (rs, qs) ∧ qs.length = n ∧ VP qs ∧ VP [at_ rs 0] ∧ RC (at_ rs 0) (P0 r n Z) ∧ VP [(neg32 z.1, neg32 z.2), one] := by
  obtain ⟨s, s1, s2, s3, s4, s5, s6⟩ := divO_R (b := bt n) hl h hz hZ (cf_le n hn hrt) (cf_grid n (fun i hi => (hrt i hi).on)) hg hn (fun j hj => hb_2 n (by omega) j (by omega) hj) n (Nat.le_refl _)
  rw [Nat.sub_self] at s5 s6
  have hq : Rl s.2 (fun k => Hz (cf r n) n Z (n - 1 - k)) := fun k hk => s6 k (Nat.zero_le _) (by omega)
  refine ⟨s.1, s.2, s1, s3, VP_of (m := n - 1) (by omega) (by omega) hq (.inr (.inl ?_)), VP_of (f := fun _ => P0 r n Z) (m := 0) rfl (by omega) (fun k hk => ?_) (.inl rfl), s5, ?_⟩
  · show (Hz (cf r n) n Z (n - 1 - (n - 1))).x ≠ 0
    rw [Nat.sub_self]
    show (cf r n n).x ≠ 0
    rw [cf_top]
    unfold one_; decide +kernel
  · obtain rfl : k = 0 := by simp at hk; omega
    exact s5
  · refine VP_of (f := fun k => if k = 0 then -Z else one_) (m := 1) rfl (by omega) (fun k hk => ?_) (.inr (.inl ?_))
    · obtain rfl | rfl : k = 0 ∨ k = 1 := by simp at hk; omega
      · exact ⟨neg32_R hz.1, neg32_R hz.2⟩
      · exact one_R
    · show one_.x ≠ 0
      unfold one_; decide +kernel
end Go.Proofs.YtlhdgbiaiacpfaaGreat
