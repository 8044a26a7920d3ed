/- What a word stands for, and how near an operation's answer is. Plain: no condition. -/
import Ieee.Arith
namespace Go.Proofs.Ytlhdgbiaiacpfaa.Num
open Ieee

/-- The number that a datum stands for. -/
def vD : Datum → Rat
  | .number s m p => (if s then -1 else 1) * (m : Rat) * (2:Rat)^p
  | _ => 0

theorem inf_lt (f : Format) : f.infRung < f.signWeight := by
  unfold Format.infRung Format.signWeight Format.binade
  rw [Nat.pow_add]
  have h1 : 1 ≤ 2 ^ f.exponentBits := Nat.one_le_two_pow
  have h2 : 0 < 2 ^ f.fractionBits := Nat.two_pow_pos _
  exact Nat.mul_lt_mul_of_pos_right (by omega) h2

theorem read_word (f : Format) (hf : 0 < f.exponentBits) (neg : Bool) (rung : Nat) (h : rung < f.infRung) :
    f.read (f.word neg rung) = if rung < f.binade then .number neg rung f.leastPlace else .number neg (f.binade + rung % f.binade) (f.leastPlace + (rung / f.binade - 1 : Nat)) := by
  have h1 := inf_lt f
  have hs : 0 < f.signWeight := by omega
  have e1 : f.word neg rung % f.signWeight = rung := by
    unfold Format.word
    cases neg
    · simp [Nat.mod_eq_of_lt (show rung < f.signWeight by omega)]
    · simp [Nat.mod_eq_of_lt (show rung < f.signWeight by omega)]
  have e2 : (f.word neg rung / f.signWeight % 2 == 1) = neg := by
    unfold Format.word
    cases neg
    · simp [Nat.div_eq_of_lt (show rung < f.signWeight by omega)]
    · simp [Nat.add_div_left _ hs, Nat.div_eq_of_lt (show rung < f.signWeight by omega)]
  unfold Format.read
  simp only [e1, e2]
  by_cases hb : rung < f.binade
  · simp [hb]
  · simp [hb, h]

theorem pw_nat (n : Nat) : (2:Rat)^(n:Int) = (2:Rat)^n := Rat.zpow_natCast _ _

/-- The number of a rung: what is kept, at its place. -/
theorem read_kept (f : Format) (hf : 0 < f.exponentBits) (neg : Bool) (L kept : Nat) (hk : kept ≤ 2 * f.binade) (hL : kept < f.binade → L = 0) (h : L * f.binade + kept < f.infRung) :
    ∃ m p, f.read (f.word neg (L * f.binade + kept)) = .number neg m p ∧ vD (.number neg m p) = (if neg then -1 else 1) * (kept : Rat) * (2:Rat)^(f.leastPlace + L) := by
  have hb : 0 < f.binade := Nat.two_pow_pos _
  rw [read_word f hf neg _ h]
  by_cases h1 : L * f.binade + kept < f.binade
  · rw [if_pos h1]
    have hL0 : L = 0 := by
      apply hL
      have : 0 ≤ L * f.binade := Nat.zero_le _
      omega
    subst hL0
    refine ⟨_, _, rfl, ?_⟩
    simp [vD]
  · rw [if_neg h1]
    refine ⟨_, _, rfl, ?_⟩
    by_cases h2 : kept = 2 * f.binade
    · subst h2
      have e : L * f.binade + 2 * f.binade = (L + 2) * f.binade := by rw [Nat.add_mul]
      rw [e, Nat.mul_mod_left, Nat.mul_div_cancel _ hb]
      simp only [vD]
      have e3 : (f.leastPlace + ((L + 2 - 1 : Nat) : Int)) = f.leastPlace + L + 1 := by omega
      rw [e3, Rat.zpow_add (by decide) _ 1]
      have e4 : (((f.binade + 0 : Nat)) : Rat) = (f.binade : Rat) := rfl
      have e5 : ((2 * f.binade : Nat) : Rat) = 2 * (f.binade : Rat) := by push_cast; rfl
      rw [e4, e5, show (2:Rat)^(1:Int) = 2 from rfl]
      grind
    · have hkb : f.binade ≤ kept := by
        by_cases h3 : kept < f.binade
        · have := hL h3; subst this; omega
        · omega
      obtain ⟨r, rfl⟩ : ∃ r, kept = f.binade + r := ⟨kept - f.binade, by omega⟩
      have hr : r < f.binade := by omega
      have e : L * f.binade + (f.binade + r) = r + (L + 1) * f.binade := by rw [Nat.add_mul]; omega
      rw [e, Nat.add_mul_mod_self_right, Nat.mod_eq_of_lt hr, Nat.add_mul_div_right _ _ hb, Nat.div_eq_of_lt hr]
      simp only [vD]
      have e3 : (f.leastPlace + ((0 + (L + 1) - 1 : Nat) : Int)) = f.leastPlace + L := by omega
      rw [e3]
theorem cut_even (neg : Bool) (n drop : Nat) : 2 * (Toward.even.cut neg n drop * 2 ^ drop) ≤ 2 * n + 2 ^ drop ∧ 2 * n ≤ 2 * (Toward.even.cut neg n drop * 2 ^ drop) + 2 ^ drop := by
  have hlt : n < 2 ^ (n.log2 + 1) := Nat.lt_log2_self
  by_cases hd : drop ≤ n.log2 + 2
  · have hm : min drop (n.log2 + 2) = drop := Nat.min_eq_left hd
    simp only [Toward.cut, hm, Nat.one_shiftLeft]
    have hp : 0 < 2 ^ drop := Nat.two_pow_pos _
    generalize 2 ^ drop = g at *
    have h1 := Nat.div_add_mod n g
    have h2 := Nat.mod_lt n hp
    generalize n / g = q at *
    generalize n % g = r at *
    rw [Nat.mul_comm] at h1
    by_cases hc : (decide (g < 2 * r) || (g == 2 * r && q % 2 == 1)) = true
    · simp only [hc, Bool.toNat_true]
      simp at hc
      rw [Nat.add_mul]
      omega
    · simp only [hc, Bool.toNat_false]
      simp at hc
      rw [Nat.add_zero]
      omega
  · have hm : min drop (n.log2 + 2) = n.log2 + 2 := Nat.min_eq_right (by omega)
    have hp : 2 ^ (n.log2 + 2) = 2 * 2 ^ (n.log2 + 1) := by rw [Nat.pow_succ]; omega
    have hge : 2 ^ (n.log2 + 2) ≤ 2 ^ drop := Nat.pow_le_pow_right (by omega) (by omega)
    have e : Toward.even.cut neg n drop = 0 := by
      simp only [Toward.cut, hm, Nat.one_shiftLeft]
      rw [Nat.div_eq_of_lt (by omega), Nat.mod_eq_of_lt (by omega)]
      have h3 : ¬ (2 ^ (n.log2 + 2) < 2 * n) := by omega
      have h4 : ¬ (2 ^ (n.log2 + 2) = 2 * n) := by omega
      simp [h3, h4]
    rw [e]
    omega
/-- What is dropped is nothing: nothing is turned. -/
theorem cut_exact (neg : Bool) (k drop : Nat) : Toward.even.cut neg (k * 2 ^ drop) drop = k := by
  have h := cut_even neg (k * 2 ^ drop) drop
  have hp : 0 < 2 ^ drop := Nat.two_pow_pos _
  generalize Toward.even.cut neg (k * 2 ^ drop) drop = c at h
  generalize 2 ^ drop = g at *
  rcases Nat.lt_trichotomy c k with hlt | heq | hgt
  · have : (c + 1) * g ≤ k * g := Nat.mul_le_mul_right _ hlt
    rw [Nat.add_mul] at this; omega
  · exact heq
  · have : (k + 1) * g ≤ c * g := Nat.mul_le_mul_right _ hgt
    rw [Nat.add_mul] at this; omega
/-- The place of the last digit that is kept. -/
def lastOf (f : Format) (mag : Nat) (place : Int) : Int := max (place + mag.log2 - f.fractionBits) f.leastPlace
def keptOf (f : Format) (neg : Bool) (mag : Nat) (place : Int) : Nat :=
  Toward.even.cut neg (mag <<< (place - lastOf f mag place).toNat) (lastOf f mag place - place).toNat

theorem kept_le (f : Format) (neg : Bool) (mag : Nat) (place : Int) (hm : mag ≠ 0) : keptOf f neg mag place ≤ 2 * f.binade := by
  have hl : mag < 2 ^ (mag.log2 + 1) := Nat.lt_log2_self
  unfold keptOf
  have hlast : place + mag.log2 - f.fractionBits ≤ lastOf f mag place := by unfold lastOf; omega
  generalize lastOf f mag place = last at *
  obtain ⟨a, ha⟩ : ∃ a, (place - last).toNat = a := ⟨_, rfl⟩
  obtain ⟨b, hb⟩ : ∃ b, (last - place).toNat = b := ⟨_, rfl⟩
  rw [ha, hb]
  have h := (cut_even neg (mag <<< a) b).1
  rw [Nat.shiftLeft_eq] at *
  have h1 : mag * 2 ^ a < 2 ^ (f.fractionBits + 1) * 2 ^ b := by
    have : mag * 2 ^ a < 2 ^ (mag.log2 + 1) * 2 ^ a := Nat.mul_lt_mul_of_pos_right hl (Nat.two_pow_pos _)
    refine Nat.lt_of_lt_of_le this ?_
    rw [← Nat.pow_add, ← Nat.pow_add]
    exact Nat.pow_le_pow_right (by omega) (by omega)
  have e : 2 * f.binade = 2 ^ (f.fractionBits + 1) := by unfold Format.binade; rw [Nat.pow_succ]; omega
  rw [e]
  generalize Toward.even.cut neg (mag * 2 ^ a) b = c at *
  have hp : 0 < 2 ^ b := Nat.two_pow_pos _
  generalize 2 ^ b = g at *
  generalize 2 ^ (f.fractionBits + 1) = B at *
  by_cases hc : c ≤ B
  · exact hc
  · have : (B + 1) * g ≤ c * g := Nat.mul_le_mul_right _ (by omega)
    rw [Nat.add_mul] at this
    omega
theorem kept_ge (f : Format) (neg : Bool) (mag : Nat) (place : Int) (hm : mag ≠ 0) (h : keptOf f neg mag place < f.binade) : lastOf f mag place = f.leastPlace := by
  have hl : 2 ^ mag.log2 ≤ mag := Nat.log2_self_le hm
  by_cases hlast : lastOf f mag place = f.leastPlace
  · exact hlast
  · exfalso
    have he : lastOf f mag place = place + mag.log2 - f.fractionBits := by unfold lastOf at *; omega
    unfold keptOf at h
    generalize lastOf f mag place = last at *
    obtain ⟨a, ha⟩ : ∃ a, (place - last).toNat = a := ⟨_, rfl⟩
    obtain ⟨b, hb⟩ : ∃ b, (last - place).toNat = b := ⟨_, rfl⟩
    rw [ha, hb] at h
    have h2 := (cut_even neg (mag <<< a) b).2
    rw [Nat.shiftLeft_eq] at *
    have h1 : 2 ^ f.fractionBits * 2 ^ b ≤ mag * 2 ^ a := by
      refine Nat.le_trans ?_ (Nat.mul_le_mul_right _ hl)
      rw [← Nat.pow_add, ← Nat.pow_add]
      exact Nat.pow_le_pow_right (by omega) (by omega)
    unfold Format.binade at h
    generalize Toward.even.cut neg (mag * 2 ^ a) b = c at *
    have hp : 0 < 2 ^ b := Nat.two_pow_pos _
    generalize 2 ^ b = g at *
    generalize 2 ^ f.fractionBits = B at *
    have : (c + 1) * g ≤ B * g := Nat.mul_le_mul_right _ (by omega)
    rw [Nat.add_mul] at this
    omega

theorem nearest_val (f : Format) (hf : 0 < f.exponentBits) (neg : Bool) (mag : Nat) (place : Int) (hm : mag ≠ 0)
    (hov : (lastOf f mag place - f.leastPlace).toNat * f.binade + keptOf f neg mag place < f.infRung) :
    ∃ m p, f.read (f.nearest neg mag place) = .number neg m p ∧ vD (.number neg m p) = (if neg then -1 else 1) * (keptOf f neg mag place : Rat) * (2:Rat)^(lastOf f mag place) := by
  have hl0 : f.leastPlace ≤ lastOf f mag place := by unfold lastOf; omega
  obtain ⟨m, p, h1, h2⟩ := read_kept f hf neg (lastOf f mag place - f.leastPlace).toNat (keptOf f neg mag place) (kept_le f neg mag place hm) (fun h => by rw [kept_ge f neg mag place hm h]; simp) hov
  have e : f.leastPlace + ((lastOf f mag place - f.leastPlace).toNat : Int) = lastOf f mag place := by omega
  rw [e] at h2
  refine ⟨m, p, ?_, h2⟩
  rw [← h1]
  unfold Format.nearest
  rw [if_neg hm]
  have hmin : min ((lastOf f mag place - f.leastPlace).toNat * f.binade + keptOf f neg mag place) f.infRung = (lastOf f mag place - f.leastPlace).toNat * f.binade + keptOf f neg mag place := Nat.min_eq_left (by omega)
  show f.read (f.word neg (min ((lastOf f mag place - f.leastPlace).toNat * f.binade + keptOf f neg mag place) f.infRung)) = _
  rw [hmin]
theorem pow_cast (n : Nat) : ((2 ^ n : Nat) : Rat) = (2:Rat)^(n:Int) := by rw [Rat.zpow_natCast]; push_cast; rfl
/-- Half of the last digit: no more is lost. -/
theorem kept_err (f : Format) (neg : Bool) (mag : Nat) (place : Int) :
    2 * ((keptOf f neg mag place : Rat) * (2:Rat)^(lastOf f mag place)) ≤ 2 * ((mag : Rat) * (2:Rat)^place) + (2:Rat)^(lastOf f mag place) ∧
    2 * ((mag : Rat) * (2:Rat)^place) ≤ 2 * ((keptOf f neg mag place : Rat) * (2:Rat)^(lastOf f mag place)) + (2:Rat)^(lastOf f mag place) := by
  unfold keptOf
  generalize lastOf f mag place = last
  obtain ⟨a, ha⟩ : ∃ a, (place - last).toNat = a := ⟨_, rfl⟩
  obtain ⟨b, hb⟩ : ∃ b, (last - place).toNat = b := ⟨_, rfl⟩
  rw [ha, hb]
  have h := cut_even neg (mag <<< a) b
  rw [Nat.shiftLeft_eq] at *
  generalize Toward.even.cut neg (mag * 2 ^ a) b = c at *
  have hs : (0:Rat) < (2:Rat)^(last - b) := Rat.zpow_pos (by decide)
  have e1 : (2:Rat)^last = (2:Rat)^(b:Int) * (2:Rat)^(last - b) := by rw [← Rat.zpow_add (by decide)]; congr 1; omega
  have e2 : (2:Rat)^place = (2:Rat)^(a:Int) * (2:Rat)^(last - b) := by rw [← Rat.zpow_add (by decide)]; congr 1; omega
  have h1 : ((2 * (c * 2 ^ b) : Nat) : Rat) ≤ ((2 * (mag * 2 ^ a) + 2 ^ b : Nat) : Rat) := by exact_mod_cast h.1
  have h2 : ((2 * (mag * 2 ^ a) : Nat) : Rat) ≤ ((2 * (c * 2 ^ b) + 2 ^ b : Nat) : Rat) := by exact_mod_cast h.2
  simp only [Rat.natCast_add, Rat.natCast_mul, pow_cast] at h1 h2
  rw [e1, e2]
  generalize (2:Rat)^(last - b) = s at *
  generalize (2:Rat)^(a:Int) = A at *
  generalize (2:Rat)^(b:Int) = B at *
  have g1 := Rat.mul_le_mul_of_nonneg_left h1 (Rat.le_of_lt hs)
  have g2 := Rat.mul_le_mul_of_nonneg_left h2 (Rat.le_of_lt hs)
  constructor <;> grind
theorem pw_mono {a b : Int} (h : a ≤ b) : (2:Rat)^a ≤ (2:Rat)^b := by
  obtain ⟨n, rfl⟩ : ∃ n : Nat, b = a + n := ⟨(b - a).toNat, by omega⟩
  have h1 : ((1 : Nat) : Rat) ≤ ((2 ^ n : Nat) : Rat) := by exact_mod_cast Nat.one_le_two_pow
  have g := Rat.mul_le_mul_of_nonneg_left h1 (Rat.le_of_lt (Rat.zpow_pos (by decide) : (0:Rat) < (2:Rat)^a))
  rw [pow_cast] at g
  rw [Rat.zpow_add (by decide)]
  generalize (2:Rat)^a = A at *
  generalize (2:Rat)^(n:Int) = B at *
  have : ((1:Nat):Rat) = 1 := rfl
  grind
theorem last_rel (f : Format) (mag : Nat) (place : Int) (hm : mag ≠ 0) : (2:Rat)^(lastOf f mag place) * (2:Rat)^(f.fractionBits:Int) ≤ (mag : Rat) * (2:Rat)^place ∨ lastOf f mag place = f.leastPlace := by
  by_cases h : lastOf f mag place = f.leastPlace
  · exact .inr h
  · left
    have he : lastOf f mag place = place + mag.log2 - f.fractionBits := by unfold lastOf at *; omega
    have hl : ((2 ^ mag.log2 : Nat) : Rat) ≤ (mag : Rat) := by exact_mod_cast Nat.log2_self_le hm
    rw [pow_cast] at hl
    rw [← Rat.zpow_add (by decide), he, show place + mag.log2 - f.fractionBits + f.fractionBits = (mag.log2 : Int) + place by omega, Rat.zpow_add (by decide)]
    exact Rat.mul_le_mul_of_nonneg_right hl (Rat.le_of_lt (Rat.zpow_pos (by decide)))
theorem kept_exact (f : Format) (neg : Bool) (mag : Nat) (place : Int) (hm : mag ≠ 0) (k : Nat) (t : Int) (hx : (mag : Rat) * (2:Rat)^place = (k : Rat) * (2:Rat)^t) (hk : k < 2 ^ (f.fractionBits + 1)) (ht : f.leastPlace ≤ t) :
    (keptOf f neg mag place : Rat) * (2:Rat)^(lastOf f mag place) = (mag : Rat) * (2:Rat)^place := by
  have hlt : lastOf f mag place ≤ t := by
    by_cases h : lastOf f mag place = f.leastPlace
    · omega
    · have he : lastOf f mag place = place + mag.log2 - f.fractionBits := by unfold lastOf at *; omega
      by_cases hgt : lastOf f mag place ≤ t
      · exact hgt
      · exfalso
        have hl : ((2 ^ mag.log2 : Nat) : Rat) ≤ (mag : Rat) := by exact_mod_cast Nat.log2_self_le hm
        have hk2 : (k : Rat) < ((2 ^ (f.fractionBits + 1) : Nat) : Rat) := by exact_mod_cast hk
        rw [pow_cast] at hl hk2
        have p1 : (0:Rat) < (2:Rat)^t := Rat.zpow_pos (by decide)
        have p2 : (0:Rat) < (2:Rat)^place := Rat.zpow_pos (by decide)
        have g1 := Rat.mul_le_mul_of_nonneg_right hl (Rat.le_of_lt p2)
        have g2 := Rat.mul_lt_mul_of_pos_right hk2 p1
        rw [← Rat.zpow_add (by decide)] at g1 g2
        have g3 : (2:Rat)^(((f.fractionBits + 1 : Nat) : Int) + t) ≤ (2:Rat)^((mag.log2 : Int) + place) := by
          exact pw_mono (by omega)
        grind
  unfold keptOf
  generalize lastOf f mag place = last at *
  obtain ⟨a, ha⟩ : ∃ a, (place - last).toNat = a := ⟨_, rfl⟩
  obtain ⟨b, hb⟩ : ∃ b, (last - place).toNat = b := ⟨_, rfl⟩
  obtain ⟨d, hd⟩ : ∃ d : Nat, t = last + d := ⟨(t - last).toNat, by omega⟩
  subst hd
  rw [ha, hb, Nat.shiftLeft_eq]
  have hs : (0:Rat) < (2:Rat)^(last - b) := Rat.zpow_pos (by decide)
  have e1 : (2:Rat)^last = (2:Rat)^(b:Int) * (2:Rat)^(last - b) := by rw [← Rat.zpow_add (by decide)]; congr 1; omega
  have e2 : (2:Rat)^place = (2:Rat)^(a:Int) * (2:Rat)^(last - b) := by rw [← Rat.zpow_add (by decide)]; congr 1; omega
  have e3 : mag * 2 ^ a = (k * 2 ^ d) * 2 ^ b := by
    have : ((mag * 2 ^ a : Nat) : Rat) = (((k * 2 ^ d) * 2 ^ b : Nat) : Rat) := by
      simp only [Rat.natCast_mul, pow_cast]
      rw [Rat.zpow_add (by decide), e1, e2] at hx
      generalize (2:Rat)^(last - b) = s at *
      generalize (2:Rat)^(a:Int) = A at *
      generalize (2:Rat)^(b:Int) = B at *
      generalize (2:Rat)^(d:Int) = D at *
      have hs0 : s ≠ 0 := by grind
      have : ((mag:Rat) * A - k * D * B) * s = 0 := by grind
      grind
    exact_mod_cast this
  rw [e3, cut_exact, hx, Rat.natCast_mul, pow_cast, Rat.zpow_add (by decide)]
  grind
/-- Not too great: the place of the last digit is bounded. -/
theorem last_le (f : Format) (mag : Nat) (place : Int) (hm : mag ≠ 0) (E : Int) (hx : (mag : Rat) * (2:Rat)^place < (2:Rat)^(E + f.fractionBits)) (hE : f.leastPlace ≤ E) : lastOf f mag place ≤ E := by
  by_cases h : lastOf f mag place = f.leastPlace
  · omega
  · have he : lastOf f mag place = place + mag.log2 - f.fractionBits := by unfold lastOf at *; omega
    by_cases hgt : lastOf f mag place ≤ E
    · exact hgt
    · exfalso
      have hl : ((2 ^ mag.log2 : Nat) : Rat) ≤ (mag : Rat) := by exact_mod_cast Nat.log2_self_le hm
      rw [pow_cast] at hl
      have p2 : (0:Rat) < (2:Rat)^place := Rat.zpow_pos (by decide)
      have g1 := Rat.mul_le_mul_of_nonneg_right hl (Rat.le_of_lt p2)
      rw [← Rat.zpow_add (by decide)] at g1
      have g3 : (2:Rat)^(E + f.fractionBits) ≤ (2:Rat)^((mag.log2 : Int) + place) := pw_mono (by omega)
      grind
/-- The word stands for the number. -/
def R (f : Format) (w : Nat) (x : Rat) : Prop := ∃ s m p, f.read w = .number s m p ∧ vD (.number s m p) = x
/-- v is what x is rounded to. -/
structure Near (f : Format) (x v : Rat) : Prop where
  err : ∃ b : Rat, 0 ≤ b ∧ v - x ≤ b ∧ x - v ≤ b ∧ (2 * b * (2:Rat)^(f.fractionBits:Int) ≤ x ∨ 2 * b * (2:Rat)^(f.fractionBits:Int) ≤ -x ∨ 2 * b = (2:Rat)^f.leastPlace)
  exact_ : ∀ (k : Int) (t : Int), x = (k : Rat) * (2:Rat)^t → k.natAbs < 2 ^ (f.fractionBits + 1) → f.leastPlace ≤ t → v = x
  sgn : (0 ≤ x → 0 ≤ v) ∧ (x ≤ 0 → v ≤ 0)

theorem write_near (f : Format) (hf : 0 < f.exponentBits) (s : Bool) (m : Nat) (p : Int) (E : Int) (hE : f.leastPlace ≤ E) (hov : ((E - f.leastPlace).toNat + 2) * f.binade < f.infRung)
    (hx : (m : Rat) * (2:Rat)^p < (2:Rat)^(E + f.fractionBits)) : ∃ v, R f (f.write (.number s m p)) v ∧ Near f (vD (.number s m p)) v := by
  have hb : 0 < f.binade := Nat.two_pow_pos _
  by_cases hm : m = 0
  · subst hm
    refine ⟨0, ?_, ⟨⟨0, by grind, ?_, ?_, ?_⟩, ?_, by grind⟩⟩
    · refine ⟨s, 0, f.leastPlace, ?_, by simp [vD]⟩
      have h0 : (0:Nat) < f.infRung := by omega
      have := read_word f hf s 0 h0
      rw [if_pos hb] at this
      simpa [Format.write, Format.nearest] using this
    · simp [vD]; grind
    · simp [vD]; grind
    · left; simp [vD]
    · intro k t _ _ _; simp [vD]
  · have hle := last_le f m p hm E hx hE
    have hkl := kept_le f s m p hm
    have hl0 : f.leastPlace ≤ lastOf f m p := by unfold lastOf; omega
    have hov2 : (lastOf f m p - f.leastPlace).toNat * f.binade + keptOf f s m p < f.infRung := by
      have h1 : (lastOf f m p - f.leastPlace).toNat * f.binade ≤ (E - f.leastPlace).toNat * f.binade := Nat.mul_le_mul_right _ (by omega)
      rw [Nat.add_mul] at hov
      omega
    obtain ⟨m', p', h1, h2⟩ := nearest_val f hf s m p hm hov2
    have he := kept_err f s m p
    have hr := last_rel f m p hm
    have hxe := kept_exact f s m p hm
    have p1 : (0:Rat) < (2:Rat)^(lastOf f m p) := Rat.zpow_pos (by decide)
    have sg1 : (0:Rat) ≤ (keptOf f s m p : Rat) * (2:Rat)^(lastOf f m p) := Rat.mul_nonneg (by exact_mod_cast Nat.zero_le _) (Rat.le_of_lt p1)
    have sg2 : (0:Rat) < (m : Rat) * (2:Rat)^p := Rat.mul_pos (by exact_mod_cast Nat.pos_of_ne_zero hm) (Rat.zpow_pos (by decide))
    refine ⟨_, ⟨s, m', p', h1, h2⟩, ?_, ?_, by cases s <;> simp only [vD] <;> grind⟩
    · refine ⟨(2:Rat)^(lastOf f m p) / 2, by grind, ?_, ?_, ?_⟩
      · cases s <;> simp only [vD] <;> grind
      · cases s <;> simp only [vD] <;> grind
      · rcases hr with hr | hr
        · cases s
          · left; simp only [vD]; grind
          · right; left; simp only [vD]; grind
        · right; right; rw [hr]; grind
    · intro k t hk hk2 ht
      have hxk : (m : Rat) * (2:Rat)^p = (k.natAbs : Rat) * (2:Rat)^t := by
        have p2 : (0:Rat) < (2:Rat)^t := Rat.zpow_pos (by decide)
        have p3 : (0:Rat) < (2:Rat)^p := Rat.zpow_pos (by decide)
        have hm0 : (0:Rat) ≤ (m : Rat) := by exact_mod_cast Nat.zero_le m
        have g := Rat.mul_nonneg hm0 (Rat.le_of_lt p3)
        rcases Int.natAbs_eq k with e | e
        · rw [e] at hk
          have hn : (0:Rat) ≤ (k.natAbs : Rat) := by exact_mod_cast Nat.zero_le _
          have g2 := Rat.mul_nonneg hn (Rat.le_of_lt p2)
          have e2 : (((k.natAbs : Nat) : Int) : Rat) = (k.natAbs : Rat) := by push_cast; rfl
          rw [e2] at hk
          cases s <;> simp only [vD] at hk <;> grind
        · rw [e] at hk
          have hn : (0:Rat) ≤ (k.natAbs : Rat) := by exact_mod_cast Nat.zero_le _
          have g2 := Rat.mul_nonneg hn (Rat.le_of_lt p2)
          have e2 : ((-((k.natAbs : Nat) : Int) : Int) : Rat) = -(k.natAbs : Rat) := by push_cast; rfl
          rw [e2] at hk
          cases s <;> simp only [vD] at hk <;> grind
      have := hxe k.natAbs t hxk hk2 ht
      simp only [vD]
      rw [Rat.mul_assoc, Rat.mul_assoc, this]
theorem signed_val (s : Bool) (m : Nat) (i base : Int) (h : base ≤ i) : ((signed s m (i - base).toNat : Int) : Rat) * (2:Rat)^base = vD (.number s m i) := by
  have e : (2:Rat)^i = (2:Rat)^(((i - base).toNat : Nat) : Int) * (2:Rat)^base := by rw [← Rat.zpow_add (by decide)]; congr 1; omega
  unfold signed
  simp only [vD]
  rw [e, ← pow_cast, Nat.shiftLeft_eq]
  cases s
  · simp only [Bool.false_eq_true, if_false, Rat.intCast_natCast, Rat.natCast_mul]; grind
  · simp only [if_true, Rat.intCast_neg, Rat.intCast_natCast, Rat.natCast_mul]; grind
theorem signed_natAbs (t : Int) (p : Int) (s : Bool) (hs : t ≠ 0 → s = decide (t < 0)) : vD (.number s t.natAbs p) = (t : Rat) * (2:Rat)^p := by
  simp only [vD]
  by_cases h : t = 0
  · subst h; simp
  · rw [hs h]
    rcases Int.natAbs_eq t with e | e
    · have : ¬ t < 0 := by omega
      have e2 : (t : Rat) = (t.natAbs : Rat) := by rw [e]; push_cast; simp
      simp [this, e2]
    · have : t < 0 := by omega
      have e2 : (t : Rat) = -(t.natAbs : Rat) := by rw [e]; push_cast; simp
      simp [this, e2]; grind
theorem sum_val (s t : Bool) (m n : Nat) (i j : Int) : ∃ s' m' p', (Datum.number s m i).sum (.number t n j) = some (.number s' m' p') ∧ vD (.number s' m' p') = vD (.number s m i) + vD (.number t n j) := by
  refine ⟨_, _, _, rfl, ?_⟩
  rw [signed_natAbs _ _ _ (by intro h; simp [h])]
  rw [← signed_val s m i (min i j) (by omega), ← signed_val t n j (min i j) (by omega)]
  push_cast
  grind
theorem product_val (s t : Bool) (m n : Nat) (i j : Int) : vD (.number (s ^^ t) (m * n) (i + j)) = vD (.number s m i) * vD (.number t n j) := by
  simp only [vD]
  rw [Rat.zpow_add (by decide)]
  cases s <;> cases t <;> simp <;> grind
/-- The bound of a sum that stays finite, as write_near wants it. -/
structure Fits (f : Format) (E : Int) : Prop where
  hf : 0 < f.exponentBits
  hE : f.leastPlace ≤ E
  hov : ((E - f.leastPlace).toNat + 2) * f.binade < f.infRung
theorem mag_lt {s : Bool} {m : Nat} {p : Int} {B : Rat} (h1 : vD (.number s m p) < B) (h2 : -B < vD (.number s m p)) : (m : Rat) * (2:Rat)^p < B := by
  cases s <;> simp only [vD] at h1 h2 <;> grind
theorem add_R {f : Format} {E : Int} (hE : Fits f E) {a b : Nat} {x y : Rat} (hx : R f a x) (hy : R f b y) (h1 : x + y < (2:Rat)^(E + f.fractionBits)) (h2 : -(2:Rat)^(E + f.fractionBits) < x + y) :
    ∃ w v, f.add a b = some w ∧ R f w v ∧ Near f (x + y) v := by
  obtain ⟨s, m, i, hra, hva⟩ := hx
  obtain ⟨t, n, j, hrb, hvb⟩ := hy
  obtain ⟨s', m', p', hs, hv⟩ := sum_val s t m n i j
  rw [hva, hvb] at hv
  obtain ⟨v, hR, hN⟩ := write_near f hE.hf s' m' p' E hE.hE hE.hov (mag_lt (by rw [hv]; exact h1) (by rw [hv]; exact h2))
  refine ⟨_, v, ?_, hR, by rw [hv] at hN; exact hN⟩
  unfold Format.add
  rw [hra, hrb, hs]
  rfl
theorem sub_R {f : Format} {E : Int} (hE : Fits f E) {a b : Nat} {x y : Rat} (hx : R f a x) (hy : R f b y) (h1 : x - y < (2:Rat)^(E + f.fractionBits)) (h2 : -(2:Rat)^(E + f.fractionBits) < x - y) :
    ∃ w v, f.sub a b = some w ∧ R f w v ∧ Near f (x - y) v := by
  obtain ⟨s, m, i, hra, hva⟩ := hx
  obtain ⟨t, n, j, hrb, hvb⟩ := hy
  obtain ⟨s', m', p', hs, hv⟩ := sum_val s (!t) m n i j
  have ho : vD (.number (!t) n j) = -y := by rw [← hvb]; cases t <;> simp only [vD] <;> simp <;> grind
  rw [hva, ho] at hv
  obtain ⟨v, hR, hN⟩ := write_near f hE.hf s' m' p' E hE.hE hE.hov (mag_lt (by rw [hv]; grind) (by rw [hv]; grind))
  refine ⟨_, v, ?_, hR, by rw [hv] at hN; rw [Rat.sub_eq_add_neg]; exact hN⟩
  unfold Format.sub
  rw [hra, hrb]
  show (Option.map f.write ((Datum.number s m i).sum (.number (!t) n j))) = _
  rw [hs]
  rfl
theorem mul_R {f : Format} {E : Int} (hE : Fits f E) {a b : Nat} {x y : Rat} (hx : R f a x) (hy : R f b y) (h1 : x * y < (2:Rat)^(E + f.fractionBits)) (h2 : -(2:Rat)^(E + f.fractionBits) < x * y) :
    ∃ w v, f.mul a b = some w ∧ R f w v ∧ Near f (x * y) v := by
  obtain ⟨s, m, i, hra, hva⟩ := hx
  obtain ⟨t, n, j, hrb, hvb⟩ := hy
  have hv := product_val s t m n i j
  rw [hva, hvb] at hv
  obtain ⟨v, hR, hN⟩ := write_near f hE.hf (s ^^ t) (m * n) (i + j) E hE.hE hE.hov (mag_lt (by rw [hv]; exact h1) (by rw [hv]; exact h2))
  refine ⟨_, v, ?_, hR, by rw [hv] at hN; exact hN⟩
  unfold Format.mul
  rw [hra, hrb]
  rfl
end Go.Proofs.Ytlhdgbiaiacpfaa.Num
