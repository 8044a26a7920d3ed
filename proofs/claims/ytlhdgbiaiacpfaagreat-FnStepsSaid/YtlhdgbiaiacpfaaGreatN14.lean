/- The phasors of small turns, and roots of numbers near to the axis. -/
import Derived.Test.YtlhdgbiaiacpfaaGreatN13
namespace Go.Proofs.YtlhdgbiaiacpfaaGreat
open Go.RowKit Num Ieee
open G
theorem read_d {a : Nat} {s : Bool} {m : Nat} {p : Int} (h : double.read a = .number s m p) : m < 2 ^ 53 ∧ -1074 ≤ p := by
  unfold Format.read at h
  simp only [] at h
  have hb : double.binade = 2 ^ 52 := rfl
  have hl : double.leastPlace = -1074 := by decide
  rw [hb, hl] at h
  split at h
  · injection h with h1 h2 h3
    omega
  · split at h
    · injection h with h1 h2 h3
      subst h2 h3
      have := Nat.mod_lt (a % double.signWeight) (show 0 < 2 ^ 52 by decide)
      exact ⟨by omega, by omega⟩
    · split at h <;> cases h
/-- A number of 64 bits that is at least 2^(q+53) is made of units of 2^q. -/
theorem on_of_ge {a : Nat} {x : Rat} {q : Int} (h : R double a x) (hx : (2:Rat)^(q + 52) ≤ x) : On q x := by
  obtain ⟨s, m, p, h1, h2⟩ := h
  obtain ⟨h3, h4⟩ := read_d h1
  have hp0 : (0:Rat) < (2:Rat)^p := Rat.zpow_pos (by decide)
  have hx0 : (0:Rat) < (2:Rat)^(q + 52) := Rat.zpow_pos (by decide)
  have hmn : (0:Rat) ≤ (m:Rat) := by exact_mod_cast Nat.zero_le _
  have hmp := Rat.mul_nonneg hmn (Rat.le_of_lt hp0)
  have hs : s = false := by
    cases s
    · rfl
    · exfalso; simp only [vD, if_true] at h2; grind
  subst hs
  have hm : (m:Rat) < ((2 ^ 53 : Nat) : Rat) := by exact_mod_cast h3
  rw [pow_cast] at hm
  have hpq : q ≤ p := by
    rcases Int.lt_or_le p q with k | k
    · exfalso
      have k1 := Rat.mul_lt_mul_of_pos_right hm hp0
      rw [← Rat.zpow_add (by decide)] at k1
      have k2 := pw_mono (show ((53:Nat):Int) + p ≤ q + 52 by omega)
      simp only [vD, Bool.false_eq_true, if_false] at h2
      grind
    · exact k
  have : On p x := ⟨m, by rw [← h2]; simp [vD, Rat.intCast_natCast]⟩
  exact this.lower hpq
theorem on_cap {t : Int} {x c d : Rat} (h : On t x) (hc : On t c) (hd : d < (2:Rat)^t) (hx : x ≤ c + d) : x ≤ c := by
  obtain ⟨k, rfl⟩ := h
  obtain ⟨l, rfl⟩ := hc
  have p : (0:Rat) < (2:Rat)^t := Rat.zpow_pos (by decide)
  rcases Int.lt_or_le l k with q | q
  · exfalso
    have : ((l + 1 : Int) : Rat) ≤ (k : Rat) := by exact_mod_cast (by omega : l + 1 ≤ k)
    have := Rat.mul_le_mul_of_nonneg_right this (Rat.le_of_lt p)
    rw [Rat.intCast_add] at this
    have e1 : ((1:Int):Rat) = 1 := rfl
    grind
  · have : (k : Rat) ≤ (l : Rat) := by exact_mod_cast q
    exact Rat.mul_le_mul_of_nonneg_right this (Rat.le_of_lt p)
theorem quarter_cap {w : Nat} {v : Rat} (h : R double w v) (hv : v ≤ 1/4 + 1/2^55) : v ≤ 1/4 := by
  rcases Rat.le_total (a := v) (b := 1/4) with k | k
  · exact k
  · have h1 : (2:Rat)^(-54 + 52 : Int) ≤ 1/4 := by decide +kernel
    have o := on_of_ge (q := -54) h (Rat.le_trans h1 k)
    have oc : On (-54) (1/4) := ⟨2 ^ 52, by decide +kernel⟩
    exact on_cap o oc (by decide +kernel) hv
theorem one_cap {w : Nat} {v : Rat} (h : R double w v) (hv : v ≤ 1 + 1/2^53) : v ≤ 1 := by
  rcases Rat.le_total (a := v) (b := 1) with k | k
  · exact k
  · have h1 : (2:Rat)^(-52 + 52 : Int) ≤ 1 := by decide +kernel
    have o := on_of_ge (q := -52) h (Rat.le_trans h1 k)
    have oc : On (-52) 1 := ⟨2 ^ 52, by decide +kernel⟩
    exact on_cap o oc (by decide +kernel) hv
theorem sub_zero_R {a : Nat} {x : Rat} (h : R double a x) (hb : Ab x 1000) : ∃ w, sub64 a 0 = some w ∧ R double w x ∧ W64 w := by
  have e0 : x - 0 = x := by grind
  obtain ⟨w, v, w1, w2, w3⟩ := sub_d h zero64_R (B := 1000) (by rw [e0]; exact hb) (by decide +kernel)
  have hv : v = x := by
    rw [e0] at w3
    obtain ⟨s, m, p, h1, h2⟩ := h
    obtain ⟨h3, h4⟩ := read_d h1
    refine w3.exact_ (if s then -(m:Int) else m) p ?_ ?_ h4
    · rw [← h2]
      cases s
      · simp [vD, Rat.intCast_natCast]
      · simp [vD, Rat.intCast_natCast]; grind
    · have : (2:Nat)^53 ≤ 2 ^ (double.fractionBits + 1) := Nat.pow_le_pow_right (by omega) (by decide)
      cases s <;> simp <;> omega
  subst hv
  exact ⟨w, w1, w2, map_64 w1⟩
theorem cut_zero {s : Bool} {m : Nat} {i : Int} {x : Rat} (h : vD (.number s m i) = x) (hx : Ab x (99/100)) : Toward.zero.cut s (m <<< i.toNat) (-i).toNat = 0 := by
  have hmn : (0:Rat) ≤ (m:Rat) := by exact_mod_cast Nat.zero_le _
  have hi0 : (0:Rat) < (2:Rat)^i := Rat.zpow_pos (by decide)
  have hlt : (m:Rat) * (2:Rat)^i < 1 := by
    have := Rat.mul_nonneg hmn (Rat.le_of_lt hi0)
    unfold Ab at hx
    cases s <;> simp only [vD] at h <;> simp at h <;> grind
  have hnat : m * 2 ^ i.toNat < 2 ^ (-i).toNat := by
    have e : (2:Rat)^(((-i).toNat : Nat) : Int) * (2:Rat)^i = (2:Rat)^((i.toNat : Nat) : Int) := by
      rw [← Rat.zpow_add (by decide)]; congr 1; omega
    have hp : (0:Rat) < (2:Rat)^(((-i).toNat : Nat) : Int) := Rat.zpow_pos (by decide)
    have h1 := Rat.mul_lt_mul_of_pos_left hlt hp
    have h2 : ((m * 2 ^ i.toNat : Nat) : Rat) < ((2 ^ (-i).toNat : Nat) : Rat) := by
      rw [Rat.natCast_mul, pow_cast, pow_cast, ← e]
      grind
    exact_mod_cast h2
  simp only [Toward.cut, Nat.shiftLeft_eq, Nat.one_mul, Bool.toNat_false, Nat.add_zero]
  refine Nat.div_eq_of_lt ?_
  rcases Nat.le_total (-i).toNat ((m * 2 ^ i.toNat).log2 + 2) with k | k
  · rw [Nat.min_eq_left k]; exact hnat
  · rw [Nat.min_eq_right k]
    have : m * 2 ^ i.toNat < 2 ^ ((m * 2 ^ i.toNat).log2 + 1) := Nat.lt_log2_self
    exact Nat.lt_of_lt_of_le this (Nat.pow_le_pow_right (by omega) (by omega))
theorem big_R : R double 4841369599423283200 (2^52) ∧ R double 14064741636278059008 (-(2^52)) := ⟨chk_R (by decide +kernel), chk_R (by decide +kernel)⟩
theorem turn_in {y : Nat} {v : Rat} (h : R double y v) (hw : W64 y) (hb : Ab v (99/100)) : ∃ f, TurnIn y f ∧ R double f v ∧ W64 f := by
  obtain ⟨f, f1, f2, f3⟩ := sub_zero_R h (hb.mono (by decide +kernel))
  have ha := absW_R h
  have hbig : (1:Rat) < 2^52 := by decide +kernel
  refine ⟨f, ⟨hw, ?_, ?_, self64 h, ?_, ?_, ?_, f1⟩, f2, f3⟩
  · obtain ⟨s, m, p, h1, h2⟩ := h
    have e : FloatKind.f64.decode y = .number s m p := h1
    refine ⟨FloatKind.f64.encode (.number s 0 0), ?_, ?_⟩
    · unfold trunc64
      rw [e]
      show some (FloatKind.f64.encode (.number s (Toward.zero.cut s (m <<< p.toNat) (-p).toNat) 0)) = _
      rw [cut_zero h2 hb]
    · cases s
      · exact (order_R (f := double) (chk_R (x := 0) (by decide +kernel)) zero64_R).2.1 rfl
      · exact (order_R (f := double) (chk_R (x := 0) (by decide +kernel)) zero64_R).2.1 rfl
  · obtain ⟨s, m, p, h1, h2⟩ := h
    have e : FloatKind.f64.decode y = .number s m p := h1
    unfold floatToIntVal
    rw [e]
    unfold Datum.toInt
    show (match some (signed s (Toward.zero.cut s (m <<< p.toNat) (-p).toNat) 0) with | some n => _ | none => none) = _
    rw [cut_zero h2 hb]
    cases s <;> decide +kernel
  · exact (order_R h big_R.1).1 (by unfold Ab at hb; grind)
  · exact (order_R h big_R.2).2.2 (by unfold Ab at hb; grind)
  · exact (order_R ha big_R.1).1 (by unfold Ab at hb; split <;> grind)
theorem sin_in {y : Nat} {v : Rat} (h : R double y v) (hw : W64 y) (h0 : 0 ≤ v) (h1 : v ≤ 1/4) : ∃ f, SinIn y f ∧ R double f v := by
  obtain ⟨f, f1, f2, f3⟩ := turn_in h hw (by unfold Ab; grind)
  refine ⟨f, ⟨f1, ?_, ?_, ?_⟩, f2⟩
  · rw [show FloatKind.f64.format.order f 0 = double.order f 0 from rfl, order_lt f2 zero64_R]; simp; grind
  · exact (order_R f2 half64_R).1 (by grind)
  · rw [show FloatKind.f64.format.order f quarter64 = double.order f quarter64 from rfl, order_gt f2 quarter64_R]; simp; grind
def dv : Nat → Rat
  | 0 => 272
  | 1 => 210
  | 2 => 156
  | 3 => 110
  | 4 => 72
  | 5 => 42
  | 6 => 20
  | _ => 6
theorem sinD_vals : (List.range 8).all (fun i => chk double (sinD i) (dv i)) = true := by decide +kernel
theorem sinD_R {i : Nat} (h : i < 8) : R double (sinD i) (dv i) := by
  have := sinD_vals
  rw [List.all_eq_true] at this
  exact chk_R (this i (by simpa using h))
theorem dv_ge : ∀ i : Nat, i < 8 → 6 ≤ dv i := by decide +kernel
theorem sinP_step {u p : Nat} {x v : Rat} {i : Nat} (hi : i < 8) (hu : R double u x) (hp : R double p v) (h0 : 0 ≤ x) (h1 : x ≤ 26/10) (h2 : 0 ≤ v) (h3 : v ≤ 101/100) (hs : sinP u i = some p) :
    ∃ p' w, sinP u (i + 1) = some p' ∧ R double p' w ∧ Ab (w - (1 - x * v / dv i)) (1/1000000000) := by
  have he : e53 ≤ 1/100000000000 ∧ 0 ≤ e53 := by decide +kernel
  have hl : lo64 ≤ 1 := by decide +kernel
  have hh : 10 ≤ hi64 := by decide +kernel
  have hd := dv_ge i hi
  have hm := mul_mono h0 h2 h1 h3
  have hm0 := Rat.mul_nonneg h0 h2
  obtain ⟨a, va, a1, a2, a3, a4, _⟩ := mul64_R (B := 3) hu hp (by unfold Ab; grind) (by grind) (by grind)
  have a5 := a4 hm0
  have a6 : va ≤ 3 := by unfold Ab at a3; grind
  obtain ⟨q, hq⟩ : ∃ q : Rat, q * dv i = va := ⟨va / dv i, div_mul_self (by grind)⟩
  have q0 : 0 ≤ q := le_of_mul (show 0 < dv i by grind) (by grind)
  have q1 : q ≤ 1 := le_of_mul (show 0 < dv i by grind) (by grind)
  have q2 : Ab (q - x * v / dv i) (1/10000000000) := by
    have e : (q - x * v / dv i) * dv i = va - x * v := by
      have : x * v / dv i * dv i = x * v := div_mul_self (by grind)
      grind
    have hdi : (0:Rat) < dv i := by grind
    unfold Ab at a3
    constructor
    · exact le_of_mul hdi (by rw [e]; grind)
    · exact le_of_mul hdi (by rw [e]; grind)
  obtain ⟨b, vb, b1, b2, b3, _⟩ := div64_R (B := 1) a2 (sinD_R hi) (by grind) hq (by unfold Ab; grind) hl (by grind)
  have b4 : Ab (1 - vb) 3 := by unfold Ab at *; grind
  obtain ⟨c, vc, c1, c2, c3, _, _⟩ := sub64_R one64_R b2 b4 (by grind) (by grind)
  refine ⟨c, vc, by simp [sinP, hs, a1, b1, c1], c2, ?_⟩
  generalize x * v / dv i = t at *
  unfold Ab at *
  grind
theorem sinP_R {u : Nat} {x : Rat} (hu : R double u x) (h0 : 0 ≤ x) (h1 : x ≤ 2468/1000) :
    ∀ i, i ≤ 8 → ∃ p v, sinP u i = some p ∧ R double p v ∧ 58/100 ≤ v ∧ v ≤ 1001/1000 := by
  intro i
  induction i with
  | zero => intro _; exact ⟨one64, 1, rfl, one64_R, by grind, by grind⟩
  | succ i ih =>
    intro hi
    obtain ⟨p, v, a1, a2, a3, a4⟩ := ih (by omega)
    obtain ⟨p', w, b1, b2, b3⟩ := sinP_step (i := i) (by omega) hu a2 h0 (by grind) (by grind) (by grind) a1
    have hd := dv_ge i (by omega)
    have hm := mul_mono h0 (show 0 ≤ v by grind) h1 a4
    have hm0 := Rat.mul_nonneg h0 (show 0 ≤ v by grind)
    have e : x * v / dv i * dv i = x * v := div_mul_self (by grind)
    have t0 : 0 ≤ x * v / dv i := le_of_mul (show 0 < dv i by grind) (by grind)
    have t1 : x * v / dv i ≤ 4118/10000 := le_of_mul (show 0 < dv i by grind) (by grind)
    refine ⟨p', w, b1, b2, ?_, ?_⟩ <;> (unfold Ab at b3; grind)
theorem sinO_R {f : Nat} {v : Rat} (hf : R double f v) (h0 : 0 ≤ v) (h1 : v ≤ 1/4) :
    ∃ r w, sinO f = some r ∧ R double r w ∧ 0 ≤ w ∧ (v ≤ 32/1000 → w ≤ 21/100) ∧ (218/1000 ≤ v → 84/100 ≤ w ∧ w ≤ 115/100) := by
  have he : e53 ≤ 1/100000000000 ∧ 0 ≤ e53 := by decide +kernel
  have hl : lo64 ≤ 1 := by decide +kernel
  have hh : 10 ≤ hi64 := by decide +kernel
  have ht := tau_b
  have m1 := mul_mono h0 (show 0 ≤ tau by grind) h1 ht.2
  have m0 := Rat.mul_nonneg h0 (show 0 ≤ tau by grind)
  obtain ⟨z, vz, a1, a2, a3, a4, _⟩ := mul64_R (B := 2) hf tau64_R (by unfold Ab; grind) (by grind) (by grind)
  have z0' := a4 m0
  have z1 : vz ≤ 15708/10000 := by unfold Ab at a3; grind
  have u1 := mul_mono z0' z0' z1 z1
  obtain ⟨u, vu, b1, b2, b3, b4, _⟩ := mul64_R (B := 3) a2 a2 (by have := sq_nn vz; unfold Ab; grind) (by grind) (by grind)
  have u0 := b4 (sq_nn vz)
  have u2 : vu ≤ 2468/1000 := by unfold Ab at b3; grind
  obtain ⟨p5, v5, c1, c2, c3, c4⟩ := sinP_R b2 u0 u2 5 (by omega)
  obtain ⟨p6, v6, d1, d2, d3⟩ := sinP_step (i := 5) (by omega) b2 c2 u0 (by grind) (by grind) (by grind) c1
  have e5 : dv 5 = 42 := rfl
  have e6 : dv 6 = 20 := rfl
  have e7 : dv 7 = 6 := rfl
  rw [e5] at d3
  have k5 := mul_mono u0 (show 0 ≤ v5 by grind) u2 c4
  have k50 := Rat.mul_nonneg u0 (show 0 ≤ v5 by grind)
  have g6 : 94/100 ≤ v6 ∧ v6 ≤ 1001/1000 := by unfold Ab at d3; grind
  obtain ⟨p7, v7, f1, f2, f3⟩ := sinP_step (i := 6) (by omega) b2 d2 u0 (by grind) (by grind) (by grind) d1
  rw [e6] at f3
  have k6 := mul_mono u0 (show 0 ≤ v6 by grind) u2 g6.2
  have k60 := Rat.mul_nonneg u0 (show 0 ≤ v6 by grind)
  have g7 : 876/1000 ≤ v7 ∧ v7 ≤ 1001/1000 := by unfold Ab at f3; grind
  obtain ⟨p8, v8, i1, i2, i3⟩ := sinP_step (i := 7) (by omega) b2 f2 u0 (by grind) (by grind) (by grind) f1
  rw [e7] at i3
  have k7 := mul_mono u0 (show 0 ≤ v7 by grind) u2 g7.2
  have k70 := Rat.mul_nonneg u0 (show 0 ≤ v7 by grind)
  have g8 : 58/100 ≤ v8 ∧ v8 ≤ 1001/1000 := by unfold Ab at i3; grind
  have r0 := Rat.mul_nonneg z0' (show 0 ≤ v8 by grind)
  have r1 := mul_mono z0' (show 0 ≤ v8 by grind) z1 g8.2
  obtain ⟨r, w, j1, j2, j3, j4, _⟩ := mul64_R (B := 2) a2 i2 (by unfold Ab; grind) (by grind) (by grind)
  refine ⟨r, w, by simp [sinO, a1, b1, i1, j1], j2, j4 r0, ?_, ?_⟩
  · intro hv
    have m2 := mul_mono h0 (show 0 ≤ tau by grind) hv ht.2
    have z2 : vz ≤ 202/1000 := by unfold Ab at a3; grind
    have := mul_mono z0' (show 0 ≤ v8 by grind) z2 g8.2
    unfold Ab at j3
    grind
  · intro hv
    have m2 := mul_mono (show (0:Rat) ≤ 218/1000 by decide +kernel) (show (0:Rat) ≤ 62831853/10000000 by decide +kernel) hv ht.1
    have z2 : 1369/1000 ≤ vz := by unfold Ab at a3; grind
    have u3 := mul_mono (show (0:Rat) ≤ 1369/1000 by decide +kernel) (show (0:Rat) ≤ 1369/1000 by decide +kernel) z2 z2
    have u4 : 1874/1000 ≤ vu := by unfold Ab at b3; grind
    -- the upper bounds, closer
    have x6 := mul_mono (show (0:Rat) ≤ 1874/1000 by decide +kernel) (show (0:Rat) ≤ 94/100 by decide +kernel) u4 g6.1
    have y7 : v7 ≤ 912/1000 := by unfold Ab at f3; grind
    have x7 := mul_mono (show (0:Rat) ≤ 1874/1000 by decide +kernel) (show (0:Rat) ≤ 876/1000 by decide +kernel) u4 g7.1
    have y8 : v8 ≤ 727/1000 := by unfold Ab at i3; grind
    have x8 := mul_mono u0 (show 0 ≤ v7 by grind) u2 y7
    have y8' : 6248/10000 ≤ v8 := by unfold Ab at i3; grind
    have w1 := mul_mono z0' (show 0 ≤ v8 by grind) z1 y8
    have w2 := mul_mono (show (0:Rat) ≤ 1369/1000 by decide +kernel) (show (0:Rat) ≤ 6248/10000 by decide +kernel) z2 y8'
    unfold Ab at j3
    grind
end Go.Proofs.YtlhdgbiaiacpfaaGreat
