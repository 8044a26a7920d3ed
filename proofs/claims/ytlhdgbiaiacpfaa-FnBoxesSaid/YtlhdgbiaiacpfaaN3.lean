/- Both formats: operations that are near, within bounds. Plain: no condition. -/
import Derived.Test.YtlhdgbiaiacpfaaN2
namespace Go.Proofs.Ytlhdgbiaiacpfaa.Num
open Ieee

def tiny : Rat := 1 / 2 ^ 110
def huge : Rat := 2 ^ 110
def e24 : Rat := 1 / 16777216
def e53 : Rat := 1 / 9007199254740992
theorem tiny_pos : 0 < tiny := by decide +kernel
theorem fits_s : Fits single 103 := ⟨by decide, by decide, by decide⟩
theorem fits_d : Fits double 970 := ⟨by decide, by decide, by decide +kernel⟩
theorem huge_s : huge < (2:Rat)^(103 + (single.fractionBits : Int)) := by decide +kernel
theorem huge_d : huge * huge < (2:Rat)^(970 + (double.fractionBits : Int)) := by decide +kernel
theorem huge_1 : (1:Rat) ≤ huge := by decide +kernel
theorem huge_d1 : huge < (2:Rat)^(970 + (double.fractionBits : Int)) := by
  have h1 := huge_d
  have h2 := Rat.mul_le_mul_of_nonneg_left huge_1 (show (0:Rat) ≤ huge by decide +kernel)
  grind
/-- A whole number of units of 2^t. -/
def On (t : Int) (x : Rat) : Prop := ∃ k : Int, x = (k:Rat) * (2:Rat)^t
theorem On.add {t : Int} {x y : Rat} (h : On t x) (k : On t y) : On t (x + y) := by
  obtain ⟨a, rfl⟩ := h
  obtain ⟨b, rfl⟩ := k
  exact ⟨a + b, by rw [Rat.intCast_add]; grind⟩
theorem On.neg {t : Int} {x : Rat} (h : On t x) : On t (-x) := by
  obtain ⟨a, rfl⟩ := h
  exact ⟨-a, by rw [Rat.intCast_neg]; grind⟩
theorem On.sub {t : Int} {x y : Rat} (h : On t x) (k : On t y) : On t (x - y) := by
  rw [Rat.sub_eq_add_neg]; exact h.add k.neg
theorem On.mul {t s : Int} {x y : Rat} (h : On t x) (k : On s y) : On (t + s) (x * y) := by
  obtain ⟨a, rfl⟩ := h
  obtain ⟨b, rfl⟩ := k
  exact ⟨a * b, by rw [Rat.intCast_mul, Rat.zpow_add (by decide)]; grind⟩
theorem On.lower {t s : Int} {x : Rat} (h : On t x) (hs : s ≤ t) : On s x := by
  obtain ⟨a, rfl⟩ := h
  obtain ⟨n, rfl⟩ : ∃ n : Nat, t = s + n := ⟨(t - s).toNat, by omega⟩
  exact ⟨a * ((2 ^ n : Nat) : Int), by rw [Rat.intCast_mul, Rat.intCast_natCast, pow_cast, Rat.zpow_add (by decide)]; grind⟩
theorem On.zero (t : Int) : On t 0 := ⟨0, by simp⟩
theorem On.int (k : Int) : On 0 (k : Rat) := ⟨k, by simp⟩

theorem natAbs_lt {k : Int} {n : Nat} {t : Int} {B : Rat} (h : Ab ((k:Rat) * (2:Rat)^t) B) (hB : B < (2:Rat)^((n:Int) + t)) : k.natAbs < 2 ^ n := by
  have p : (0:Rat) < (2:Rat)^t := Rat.zpow_pos (by decide)
  rw [Rat.zpow_add (by decide), ← pow_cast] at hB
  generalize (2:Rat)^t = g at *
  have h1 : ((k.natAbs : Nat) : Rat) * g < ((2 ^ n : Nat) : Rat) * g := by
    unfold Ab at h
    rcases Int.natAbs_eq k with e | e
    · have e2 : (k : Rat) = (k.natAbs : Rat) := by rw [e]; push_cast; simp
      rw [e2] at h; grind
    · have e2 : (k : Rat) = -(k.natAbs : Rat) := by rw [e]; push_cast; simp
      rw [e2] at h; grind
  rcases Nat.lt_or_ge k.natAbs (2 ^ n) with q | q
  · exact q
  · have : (((2 ^ n : Nat)) : Rat) ≤ ((k.natAbs : Nat) : Rat) := by exact_mod_cast q
    have := Rat.mul_le_mul_of_nonneg_right this (Rat.le_of_lt p)
    grind
theorem near_on_s {x v B : Rat} {t : Int} (h : Near single x v) (ho : On t x) (hb : Ab x B) (hB : B < (2:Rat)^(24 + t)) (ht : -149 ≤ t) : v = x := by
  obtain ⟨k, rfl⟩ := ho
  exact h.exact_ k t rfl (natAbs_lt (n := 24) hb hB) ht
theorem near_on_d {x v B : Rat} {t : Int} (h : Near double x v) (ho : On t x) (hb : Ab x B) (hB : B < (2:Rat)^(53 + t)) (ht : -1074 ≤ t) : v = x := by
  obtain ⟨k, rfl⟩ := ho
  exact h.exact_ k t rfl (natAbs_lt (n := 53) hb hB) ht
theorem p23 : (2:Rat)^(single.fractionBits:Int) = 8388608 := by decide +kernel
theorem p52 : (2:Rat)^(double.fractionBits:Int) = 4503599627370496 := by decide +kernel
theorem l_s : (2:Rat)^single.leastPlace ≤ 2 * e24 * tiny := by decide +kernel
theorem l_d : (2:Rat)^double.leastPlace ≤ 2 * e53 * (tiny * tiny * tiny * tiny) := by decide +kernel
theorem near_s {x v B : Rat} (h : Near single x v) (hb : Ab x B) (h1 : tiny ≤ B) : Ab (v - x) (B * e24) := by
  obtain ⟨b, h0, h2, h3, h4⟩ := h.err
  rw [p23] at h4
  have hl := l_s
  have he : e24 = 1 / 16777216 := rfl
  have hm := Rat.mul_le_mul_of_nonneg_right h1 (show (0:Rat) ≤ e24 by decide +kernel)
  unfold Ab at *
  rcases h4 with h4 | h4 | h4
  · rw [he]; constructor <;> grind
  · rw [he]; constructor <;> grind
  · constructor <;> grind
theorem near_d {x v B : Rat} (h : Near double x v) (hb : Ab x B) (h1 : tiny * tiny * tiny * tiny ≤ B) : Ab (v - x) (B * e53) := by
  obtain ⟨b, h0, h2, h3, h4⟩ := h.err
  rw [p52] at h4
  have hl := l_d
  have he : e53 = 1 / 9007199254740992 := rfl
  have hm := Rat.mul_le_mul_of_nonneg_right h1 (show (0:Rat) ≤ e53 by decide +kernel)
  generalize tiny * tiny * tiny * tiny = tn at *
  unfold Ab at *
  rcases h4 with h4 | h4 | h4
  · rw [he]; constructor <;> grind
  · rw [he]; constructor <;> grind
  · constructor <;> grind

/-! The operations: near, within bounds. -/
theorem ab_lt {x B C : Rat} (h : Ab x B) (h1 : B ≤ huge) (h2 : huge < C) : x < C ∧ -C < x := by unfold Ab at h; grind
theorem add_s {a b : Nat} {x y B : Rat} (hx : R single a x) (hy : R single b y) (h : Ab (x + y) B) (h2 : B ≤ huge) :
    ∃ w v, single.add a b = some w ∧ R single w v ∧ Near single (x + y) v :=
  add_R fits_s hx hy (ab_lt h h2 huge_s).1 (ab_lt h h2 huge_s).2
theorem sub_s {a b : Nat} {x y B : Rat} (hx : R single a x) (hy : R single b y) (h : Ab (x - y) B) (h2 : B ≤ huge) :
    ∃ w v, single.sub a b = some w ∧ R single w v ∧ Near single (x - y) v :=
  sub_R fits_s hx hy (ab_lt h h2 huge_s).1 (ab_lt h h2 huge_s).2
theorem mul_s {a b : Nat} {x y B : Rat} (hx : R single a x) (hy : R single b y) (h : Ab (x * y) B) (h2 : B ≤ huge) :
    ∃ w v, single.mul a b = some w ∧ R single w v ∧ Near single (x * y) v :=
  mul_R fits_s hx hy (ab_lt h h2 huge_s).1 (ab_lt h h2 huge_s).2
theorem ab_ltd {x B : Rat} (h : Ab x B) (h1 : B ≤ huge * huge) : x < (2:Rat)^(970 + (double.fractionBits : Int)) ∧ -(2:Rat)^(970 + (double.fractionBits : Int)) < x := by
  have := huge_d
  unfold Ab at h; grind
theorem add_d {a b : Nat} {x y B : Rat} (hx : R double a x) (hy : R double b y) (h : Ab (x + y) B) (h2 : B ≤ huge * huge) :
    ∃ w v, double.add a b = some w ∧ R double w v ∧ Near double (x + y) v :=
  add_R fits_d hx hy (ab_ltd h h2).1 (ab_ltd h h2).2
theorem sub_d {a b : Nat} {x y B : Rat} (hx : R double a x) (hy : R double b y) (h : Ab (x - y) B) (h2 : B ≤ huge * huge) :
    ∃ w v, double.sub a b = some w ∧ R double w v ∧ Near double (x - y) v :=
  sub_R fits_d hx hy (ab_ltd h h2).1 (ab_ltd h h2).2
theorem mul_d {a b : Nat} {x y B : Rat} (hx : R double a x) (hy : R double b y) (h : Ab (x * y) B) (h2 : B ≤ huge * huge) :
    ∃ w v, double.mul a b = some w ∧ R double w v ∧ Near double (x * y) v :=
  mul_R fits_d hx hy (ab_ltd h h2).1 (ab_ltd h h2).2
theorem le_of_mul {a b g : Rat} (hg : 0 < g) (h : a * g ≤ b * g) : a ≤ b := by
  rcases Rat.le_total (a := a) (b := b) with k | k
  · exact k
  · by_cases e : a = b
    · grind
    · have hlt : 0 < a - b := by grind
      have := Rat.mul_pos hlt hg
      grind
theorem p25 : (2:Rat)^((single.fractionBits + 2 : Nat):Int) = 33554432 := by decide +kernel
theorem p54 : (2:Rat)^((double.fractionBits + 2 : Nat):Int) = 18014398509481984 := by decide +kernel
def e25 : Rat := 1 / 33554432
def e54 : Rat := 1 / 18014398509481984
theorem ab25 {δ : Rat} (h : Ab (δ * (2:Rat)^((single.fractionBits + 2 : Nat):Int)) 1) : Ab δ e25 := by
  rw [p25] at h
  unfold Ab e25 at *
  grind
theorem ab54 {δ : Rat} (h : Ab (δ * (2:Rat)^((double.fractionBits + 2 : Nat):Int)) 1) : Ab δ e54 := by
  rw [p54] at h
  unfold Ab e54 at *
  grind
/-- A quotient: q is the true one; of what is asked of it, B. -/
theorem div_d {a b : Nat} {x y q B : Rat} (hx : R double a x) (hy : R double b y) (hy0 : y ≠ 0) (hq : q * y = x) (h : Ab q B) (h2 : B * 2 ≤ huge * huge) :
    ∃ w v D, double.div a b = some w ∧ R double w v ∧ Near double D v ∧ Ab (D - q) (B * e54) := by
  have key : ∀ D δ : Rat, D * y = x * (1 + δ) → Ab (δ * (2:Rat)^((double.fractionBits + 2 : Nat):Int)) 1 → D = q * (1 + δ) ∧ Ab (q * δ) (B * e54) := by
    intro D δ h1 h2
    refine ⟨?_, h.mul (ab54 h2)⟩
    have : (D - q * (1 + δ)) * y = 0 := by grind
    grind
  obtain ⟨w, v, D, δ, h3, h4, h5, h6, h7⟩ := div_R (D' := B * 2) fits_d hx hy hy0 (fun D δ h3 h4 => by
    obtain ⟨e, k⟩ := key D δ h3 h4
    have := h.nn
    unfold Ab e54 at *
    grind) (by have := huge_d; grind)
  obtain ⟨e, k⟩ := key D δ h6 h7
  exact ⟨w, v, D, h3, h4, h5, by rw [e]; unfold Ab at *; grind⟩
theorem div_s {a b : Nat} {x y q B : Rat} (hx : R single a x) (hy : R single b y) (hy0 : y ≠ 0) (hq : q * y = x) (h : Ab q B) (h2 : B * 2 ≤ huge) :
    ∃ w v D, single.div a b = some w ∧ R single w v ∧ Near single D v ∧ Ab (D - q) (B * e25) := by
  have key : ∀ D δ : Rat, D * y = x * (1 + δ) → Ab (δ * (2:Rat)^((single.fractionBits + 2 : Nat):Int)) 1 → D = q * (1 + δ) ∧ Ab (q * δ) (B * e25) := by
    intro D δ h1 h2
    refine ⟨?_, h.mul (ab25 h2)⟩
    have : (D - q * (1 + δ)) * y = 0 := by grind
    grind
  obtain ⟨w, v, D, δ, h3, h4, h5, h6, h7⟩ := div_R (D' := B * 2) fits_s hx hy hy0 (fun D δ h3 h4 => by
    obtain ⟨e, k⟩ := key D δ h3 h4
    have := h.nn
    unfold Ab e25 at *
    grind) (by have := huge_s; grind)
  obtain ⟨e, k⟩ := key D δ h6 h7
  exact ⟨w, v, D, h3, h4, h5, by rw [e]; unfold Ab at *; grind⟩
theorem sqrt_d {a : Nat} {x B : Rat} (hx : R double a x) (h0 : 0 ≤ x) (hB : x * 4 ≤ B * B) (hB0 : 0 ≤ B) (h2 : B ≤ huge * huge) :
    ∃ w v D δ, double.sqrt a = some w ∧ R double w v ∧ Near double D v ∧ 0 ≤ D ∧ D * D = x * (1 + δ) ∧ Ab δ e54 := by
  obtain ⟨w, v, D, δ, h3, h4, h5, h6, h7, h8⟩ := sqrt_R fits_d hx h0 hB hB0 (by have := huge_d; grind)
  exact ⟨w, v, D, δ, h3, h4, h5, h6, h7, ab54 h8⟩

/-! From one format to the other. -/
theorem read_s_on {a : Nat} {s : Bool} {m : Nat} {p : Int} (h : single.read a = .number s m p) : m < 2 ^ 24 ∧ -149 ≤ p ∧ p < 110 := by
  unfold Format.read at h
  simp only [] at h
  have hb : single.binade = 2 ^ 23 := rfl
  have hl : single.leastPlace = -149 := by decide
  have hi : single.infRung = 255 * 2 ^ 23 := by decide
  rw [hb, hl, hi] at h
  split at h
  · injection h with h1 h2 h3
    omega
  · split at h
    · injection h with h1 h2 h3
      subst h2 h3
      have := Nat.mod_lt (a % single.signWeight) (show 0 < 2 ^ 23 by decide)
      refine ⟨by omega, by omega, ?_⟩
      have : a % single.signWeight / 2 ^ 23 < 255 := by omega
      omega
    · split at h <;> cases h
theorem R_on_s {a : Nat} {x : Rat} (h : R single a x) : On (-149) x := by
  obtain ⟨s, m, p, h1, h2⟩ := h
  obtain ⟨h3, h4, h5⟩ := read_s_on h1
  subst h2
  have : On p (vD (.number s m p)) := by
    cases s
    · exact ⟨m, by simp [vD, Rat.intCast_natCast]⟩
    · exact ⟨-m, by simp [vD, Rat.intCast_natCast]; grind⟩
  exact this.lower h4
theorem read_val_d {d : Nat} {s : Bool} {m : Nat} {p : Int} (h : double.read d = .number s m p) : (double.read d).isInfinity = false := by rw [h]; rfl
theorem widen {a : Nat} {x : Rat} (h : R single a x) : ∃ s m p, single.read a = .number s m p ∧ (double.read (double.write (.number s m p))).isInfinity = false ∧ R double (double.write (.number s m p)) x := by
  obtain ⟨s, m, p, h1, h2⟩ := h
  obtain ⟨h3, h4, h5⟩ := read_s_on h1
  have hm : (m:Rat) < ((2 ^ 24 : Nat) : Rat) := by exact_mod_cast h3
  have hp := pw_mono (show p ≤ 110 by omega)
  have hp0 : (0:Rat) < (2:Rat)^p := Rat.zpow_pos (by decide)
  have hb : (m:Rat) * (2:Rat)^p < huge * huge := by
    have h0 : (0:Rat) ≤ (m:Rat) := by exact_mod_cast Nat.zero_le _
    have := mul_mono h0 (Rat.le_of_lt hp0) (Rat.le_of_lt hm) hp
    have h6 : ((2 ^ 24 : Nat) : Rat) * (2:Rat)^(110:Int) < huge * huge := by decide +kernel
    grind
  obtain ⟨v, hR, hN⟩ := write_near double fits_d.hf s m p 970 fits_d.hE fits_d.hov (by have := huge_d; grind)
  have hv : v = x := by
    rw [← h2]
    refine hN.exact_ (if s then -(m:Int) else m) p ?_ ?_ (by show (-1074:Int) ≤ p; omega)
    · cases s
      · simp [vD, Rat.intCast_natCast]
      · simp [vD, Rat.intCast_natCast]; grind
    · have : (2:Nat)^24 ≤ 2 ^ (double.fractionBits + 1) := Nat.pow_le_pow_right (by omega) (by decide)
      cases s <;> simp <;> omega
  subst hv
  obtain ⟨s', m', p', h6, h7⟩ := hR
  exact ⟨s, m, p, h1, read_val_d h6, s', m', p', h6, h7⟩
theorem narrow {a : Nat} {x B : Rat} (h : R double a x) (hb : Ab x B) (hB : B ≤ huge) : ∃ s m p v, double.read a = .number s m p ∧ (single.read (single.write (.number s m p))).isInfinity = false ∧ R single (single.write (.number s m p)) v ∧ Near single x v := by
  obtain ⟨s, m, p, h1, h2⟩ := h
  have := ab_lt hb hB huge_s
  obtain ⟨v, hR, hN⟩ := write_near single fits_s.hf s m p 103 fits_s.hE fits_s.hov (mag_lt (s := s) (by rw [h2]; exact this.1) (by rw [h2]; exact this.2))
  rw [h2] at hN
  have hR' := hR
  obtain ⟨s', m', p', h6, h7⟩ := hR'
  exact ⟨s, m, p, v, h1, by rw [h6]; rfl, hR, hN⟩
end Go.Proofs.Ytlhdgbiaiacpfaa.Num
