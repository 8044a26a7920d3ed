/- Around the great box each root's angle makes one turn, as numbers. No condition. -/
import Derived.Test.YtlhdgbiaiacpfaaM5
namespace Go.Proofs.Ytlhdgbiaiacpfaa
open Go.RowKit Num Ieee
open G

/-! Around the great box each root's angle makes one turn, as numbers. No condition. -/
theorem Tn_val (u : Nat) {y : Rat} (hy : y * 1073741824 = (u : Rat)) : ((Tn u : Int) : Rat) = T y * (15 * 1427247692705959881058285969449495136382746624) := by
  unfold Tn
  simp only [Rat.intCast_add, Rat.intCast_sub, Rat.intCast_mul, Rat.intCast_natCast]
  have e1 : (((15 * 2 ^ 120 : Int)) : Rat) = 15 * 1329227995784915872903807060280344576 := by decide +kernel
  have e2 : (((5 * 2 ^ 60 : Int)) : Rat) = 5 * 1152921504606846976 := by decide +kernel
  have e3 : ((3 : Int) : Rat) = 3 := rfl
  simp only [Rat.intCast_mul] at e1 e2
  rw [e1, e2, e3, ← hy]
  unfold T
  grind
def ti (X Y : Int) (i : Nat) : Rat := (wim X Y i : Rat) / (wre X Y i : Rat)
def bjr (j : Nat) : Rat := (bji j : Rat) / 100000
theorem step_R {j : Nat} {X Y : Int} {i : Nat} (h : stepOk j X Y i = true) : (0:Rat) < (wre X Y i : Rat) ∧ (wim X Y i : Rat) = ti X Y i * (wre X Y i : Rat) ∧ 0 ≤ ti X Y i ∧ ti X Y i ≤ bjr j ∧ (235929600:Rat) ≤ ((px i - X : Int) : Rat) * ((px i - X : Int) : Rat) + ((py i - Y : Int) : Rat) * ((py i - Y : Int) : Rat) ∧ ∃ y : Rat, y * 1073741824 = (tn X Y i : Rat) ∧ 0 ≤ ti X Y i - y ∧ ti X Y i - y ≤ 1/1073741824 := by
  simp only [stepOk, Bool.and_eq_true, decide_eq_true_eq] at h
  obtain ⟨⟨⟨h1, h2⟩, h3⟩, h4⟩ := h
  have r1 : (0:Rat) < (wre X Y i : Rat) := by
    have := Rat.intCast_lt_intCast.2 h1
    exact this
  have r2 : (0:Rat) ≤ (wim X Y i : Rat) := by
    have := Rat.intCast_le_intCast.2 h2
    exact this
  have r3 : (wim X Y i : Rat) * 100000 ≤ (bji j : Rat) * (wre X Y i : Rat) := by
    have := Rat.intCast_le_intCast.2 h3
    simp only [Rat.intCast_mul] at this
    exact this
  have r4 : (235929600:Rat) ≤ ((px i - X : Int) : Rat) * ((px i - X : Int) : Rat) + ((py i - Y : Int) : Rat) * ((py i - Y : Int) : Rat) := by
    have := Rat.intCast_le_intCast.2 h4
    rw [Rat.intCast_add, Rat.intCast_mul, Rat.intCast_mul] at this
    exact this
  have e : ti X Y i * (wre X Y i : Rat) = (wim X Y i : Rat) := div_mul_self (by grind)
  have t0 : 0 ≤ ti X Y i := le_of_mul r1 (by rw [e]; grind)
  have hb : bjr j * 100000 = (bji j : Rat) := div_mul_self (by decide +kernel)
  have t1 : ti X Y i ≤ bjr j := by
    refine le_of_mul r1 ?_
    rw [e]
    rw [← hb] at r3
    grind
  refine ⟨r1, e.symm, t0, t1, r4, ?_⟩
  obtain ⟨m, hm⟩ := Int.eq_ofNat_of_zero_le h2
  obtain ⟨d, hd⟩ := Int.eq_ofNat_of_zero_le (Int.le_of_lt h1)
  have hd0 : 0 < d := by omega
  have htn : tn X Y i = m * 1073741824 / d := by unfold tn; rw [hm, hd]; rfl
  have hdm := Nat.div_mul_le_self (m * 1073741824) d
  have hdl := Nat.lt_mul_div_succ (m * 1073741824) hd0
  rw [← htn] at hdm hdl
  have k1 : ((tn X Y i : Nat) : Rat) * (d : Rat) ≤ (m : Rat) * 1073741824 := by
    have : (((tn X Y i) * d : Nat) : Rat) ≤ ((m * 1073741824 : Nat) : Rat) := by exact_mod_cast hdm
    rw [Rat.natCast_mul, Rat.natCast_mul] at this
    exact this
  have k2 : (m : Rat) * 1073741824 < (d : Rat) * ((tn X Y i : Nat) : Rat) + (d : Rat) := by
    have h5 : m * 1073741824 < d * tn X Y i + d := by rw [Nat.mul_add, Nat.mul_one] at hdl; exact hdl
    have : ((m * 1073741824 : Nat) : Rat) < ((d * tn X Y i + d : Nat) : Rat) := by exact_mod_cast h5
    rw [Rat.natCast_mul, Rat.natCast_add, Rat.natCast_mul] at this
    exact this
  have em : (wim X Y i : Rat) = (m : Rat) := by rw [hm]; exact Rat.intCast_natCast m
  have ed : (wre X Y i : Rat) = (d : Rat) := by rw [hd]; exact Rat.intCast_natCast d
  rw [em, ed] at e
  rw [ed] at r1
  obtain ⟨y, hy⟩ : ∃ y : Rat, y * 1073741824 = (tn X Y i : Rat) := ⟨(tn X Y i : Rat) / 1073741824, div_mul_self (by decide +kernel)⟩
  refine ⟨y, hy, ?_, ?_⟩
  · have : y ≤ ti X Y i := le_of_mul r1 (by rw [e]; rw [← hy] at k1; grind)
    grind
  · have : ti X Y i ≤ y + 1/1073741824 := by
      refine le_of_mul r1 ?_
      rw [e]
      rw [← hy] at k2
      grind
    grind
theorem sumI_R {f : Nat → Int} {g : Nat → Rat} {D e : Rat} (hD : 0 < D) : ∀ n, (∀ i, i < n → Ab (g i * D - (f i : Rat)) (e * D)) → Ab (sumR g n * D - (sumI f n : Rat)) (ri n * e * D) := by
  intro n
  induction n with
  | zero =>
    intro _
    show Ab (0 * D - ((0:Int):Rat)) (ri 0 * e * D)
    have e0 : ((0:Int):Rat) = 0 := rfl
    rw [e0]; unfold ri
    exact ⟨by grind, by grind⟩
  | succ n ih =>
    intro h
    have := (ih (fun i hi => h i (by omega))).add (h n (by omega))
    show Ab ((sumR g n + g n) * D - ((sumI f n + f n : Int) : Rat)) _
    rw [Rat.intCast_add, ri_succ]
    have e1 : (sumR g n + g n) * D - ((sumI f n : Rat) + (f n : Rat)) = (sumR g n * D - (sumI f n : Rat)) + (g n * D - (f n : Rat)) := by grind
    rw [e1]
    exact this.mono (by grind)
theorem turn_sum {j a b : Nat} (hj : j < 4) (ha : a < 5) (hb : b < 17) : (∀ i, i < 160 → stepOk j (qx j a) (qy b) i = true) ∧ Ab (sumR (fun i => T (ti (qx j a) (qy b) i)) 160 - tau) (1/50000) := by
  have h := root_ok hj ha hb
  simp only [rootOk, Bool.and_eq_true, List.all_eq_true] at h
  obtain ⟨h1, h2⟩ := h
  have hst : ∀ i, i < 160 → stepOk j (qx j a) (qy b) i = true := fun i hi => h1 i (by simpa using hi)
  refine ⟨hst, ?_⟩
  generalize qx j a = X at *
  generalize qy b = Y at *
  obtain ⟨D, hD⟩ : ∃ D : Rat, D = 15 * 1427247692705959881058285969449495136382746624 := ⟨_, rfl⟩
  have hD0 : 0 < D := by rw [hD]; decide +kernel
  have hbj : ∀ j : Nat, j < 4 → bjr j ≤ 7/100 := by decide +kernel
  have hsum := sumI_R (f := fun i => Tn (tn X Y i)) (g := fun i => T (ti X Y i)) (e := 11/10 * (1/1073741824)) hD0 160 (fun i hi => by
    obtain ⟨_, _, t0, t1, _, y, hy, y1, y2⟩ := step_R (hst i hi)
    have hbj' := hbj j hj
    rw [Tn_val _ hy, ← hD]
    have hta : Ab (ti X Y i) (3/10) := by unfold Ab; grind
    have hya : Ab y (3/10) := by
      have hy0 : 0 ≤ y := le_of_mul (show (0:Rat) < 1073741824 by decide +kernel) (by
        rw [hy]
        have : (0:Rat) ≤ ((tn X Y i : Nat) : Rat) := by exact_mod_cast Nat.zero_le _
        grind)
      unfold Ab; grind
    have k := T_near hta hya (show Ab (ti X Y i - y) (1/1073741824) by unfold Ab; grind)
    have k2 := k.mul (Ab.self (Rat.le_of_lt hD0))
    have e : T (ti X Y i) * D - T y * D = (T (ti X Y i) - T y) * D := by grind
    rw [e]
    exact k2.mono (by rw [Rat.mul_comm (1/1073741824) (11/10)]; exact Rat.le_refl))
  simp only [turnOk, Bool.and_eq_true, decide_eq_true_eq] at h2
  obtain ⟨s1, s2⟩ := h2
  generalize sumI (fun i => Tn (tn X Y i)) 160 = S at *
  generalize sumR (fun i => T (ti X Y i)) 160 = A at *
  have c1 : (S:Rat) * 100000 ≤ tau * D * 100000 + D := by
    have := Rat.intCast_le_intCast.2 s1
    rw [Rat.intCast_mul, Rat.intCast_add] at this
    have e1 : ((100000:Int):Rat) = 100000 := rfl
    have e2 : (((7074237752028440 * 15 * 2 ^ 100) * 100000 : Int) : Rat) = tau * D * 100000 := by rw [hD]; decide +kernel
    have e3 : ((15 * 2 ^ 150 : Int) : Rat) = D := by rw [hD]; decide +kernel
    rwa [e1, e2, e3] at this
  have c2 : tau * D * 100000 ≤ (S:Rat) * 100000 + D := by
    have := Rat.intCast_le_intCast.2 s2
    rw [Rat.intCast_add, Rat.intCast_mul S] at this
    have e1 : ((100000:Int):Rat) = 100000 := rfl
    have e2 : (((7074237752028440 * 15 * 2 ^ 100) * 100000 : Int) : Rat) = tau * D * 100000 := by rw [hD]; decide +kernel
    have e3 : ((15 * 2 ^ 150 : Int) : Rat) = D := by rw [hD]; decide +kernel
    rwa [e1, e2, e3] at this
  have hri : ri 160 * (11/10 * (1/1073741824)) ≤ 1/1000000 := by unfold ri; decide +kernel
  have hs2 := hsum.mono (Rat.mul_le_mul_of_nonneg_right hri (Rat.le_of_lt hD0))
  clear hsum s1 s2 hst h1 hD
  have k : Ab ((A - tau) * D) (1/50000 * D) := by
    have e : (A - tau) * D = A * D - tau * D := by grind
    rw [e]
    generalize tau * D = B at *
    generalize A * D = E at *
    unfold Ab at *
    constructor <;> grind
  constructor
  · exact le_of_mul hD0 (by have := k.1; grind)
  · exact le_of_mul hD0 k.2

/-! A step on the great box: the angle of the quotient is the sum of the roots' angles, nearly. No condition but the sizes. -/
theorem rt_root {j : Nat} {X : G} (h : Rt j X) : ∃ a b : Nat, a < 5 ∧ b < 17 ∧ X.x * 2560 = (qx j a : Rat) ∧ X.y * 2560 = (qy b : Rat) := by
  obtain ⟨k, hk⟩ := h.on.1
  obtain ⟨l, hl⟩ := h.on.2
  rw [pm3] at hk hl
  have lo := h.lo
  have hi := h.hi
  have im := h.im
  have ej : (((j:Nat):Int):Rat) = (j:Rat) := Rat.intCast_natCast j
  have k1 : 8 * (j:Int) - 12 ≤ k := by
    refine Rat.intCast_le_intCast.1 ?_
    rw [Rat.intCast_sub, Rat.intCast_mul, ej]
    have e1 : ((8:Int):Rat) = 8 := rfl
    have e2 : ((12:Int):Rat) = 12 := rfl
    rw [e1, e2]; grind
  have k2 : k ≤ 8 * (j:Int) - 8 := by
    refine Rat.intCast_le_intCast.1 ?_
    rw [Rat.intCast_sub, Rat.intCast_mul, ej]
    have e1 : ((8:Int):Rat) = 8 := rfl
    rw [e1]; grind
  have l1 : -8 ≤ l := by
    refine Rat.intCast_le_intCast.1 ?_
    have e1 : ((-8:Int):Rat) = -8 := rfl
    rw [e1]; unfold Ab at im; grind
  have l2 : l ≤ 8 := by
    refine Rat.intCast_le_intCast.1 ?_
    have e1 : ((8:Int):Rat) = 8 := rfl
    rw [e1]; unfold Ab at im; grind
  obtain ⟨a, ha⟩ := Int.eq_ofNat_of_zero_le (show 0 ≤ k - 8 * (j:Int) + 12 by omega)
  obtain ⟨b, hb⟩ := Int.eq_ofNat_of_zero_le (show 0 ≤ l + 8 by omega)
  refine ⟨a, b, by omega, by omega, ?_, ?_⟩
  · have : qx j a = 320 * k := by unfold qx; omega
    rw [this, hk, Rat.intCast_mul]
    have e1 : ((320:Int):Rat) = 320 := rfl
    rw [e1]; grind
  · have : qy b = 320 * l := by unfold qy; omega
    rw [this, hl, Rat.intCast_mul]
    have e1 : ((320:Int):Rat) = 320 := rfl
    rw [e1]; grind
/-- The points without error. -/
def zt (i : Nat) : G := ⟨(px i : Rat) / 2560, (py i : Rat) / 2560⟩
theorem corners8 : xl 0 = -257/32 ∧ xl 8 = 129/16 ∧ yl 0 = -513/64 ∧ yl 8 = 259/32 := by decide +kernel
theorem zt_eq {s k : Nat} (hs : s < 4) (hk : k < 40) : corG (fg 0 0) (fg 8 8) s + sc ((k:Rat) / ((40:Nat):Rat)) (corG (fg 0 0) (fg 8 8) (s + 1) - corG (fg 0 0) (fg 8 8) s) = zt (s * 40 + k) := by
  obtain ⟨c1, c2, c3, c4⟩ := corners8
  have e40 : ((40:Nat):Rat) = 40 := rfl
  rw [e40]
  have ek : (((k:Nat):Int):Rat) = (k:Rat) := Rat.intCast_natCast k
  have i0 : ((1030:Int):Rat) = 1030 := rfl
  have i1 : ((20560:Int):Rat) = 20560 := rfl
  have i2 : ((1031:Int):Rat) = 1031 := rfl
  have i3 : ((20520:Int):Rat) = 20520 := rfl
  have i4 : ((40:Int):Rat) = 40 := rfl
  have hx : ∀ q : Nat, (ix q : Rat) = 1030 * (q:Rat) - 20560 := by intro q; unfold ix; rw [Rat.intCast_sub, Rat.intCast_mul, Rat.intCast_natCast, i0, i1]
  have hy : ∀ q : Nat, (iy q : Rat) = 1031 * (q:Rat) - 20520 := by intro q; unfold iy; rw [Rat.intCast_sub, Rat.intCast_mul, Rat.intCast_natCast, i2, i3]
  have hsub : ((40 - k : Nat) : Rat) = 40 - (k:Rat) := by
    have : ((40 - k : Nat) : Rat) + (k:Rat) = 40 := by rw [← Rat.natCast_add, show 40 - k + k = 40 by omega]; rfl
    grind
  have e0 : ((0:Nat):Rat) = 0 := rfl
  obtain rfl | rfl | rfl | rfl : s = 0 ∨ s = 1 ∨ s = 2 ∨ s = 3 := by omega
  · have p1 : px (0 * 40 + k) = ix k := by unfold px; rw [if_pos (by omega)]; congr 1; omega
    have p2 : py (0 * 40 + k) = iy 0 := by unfold py; rw [if_pos (by omega)]
    unfold zt
    rw [p1, p2, hx, hy, e0]
    ext
    · simp only [corG, fg, add_x, sub_x, sc, c1, c2]; grind
    · simp only [corG, fg, add_y, sub_y, sc, c3, c4]; grind
  · have p1 : px (1 * 40 + k) = ix 40 := by unfold px; rw [if_neg (by omega), if_pos (by omega)]
    have p2 : py (1 * 40 + k) = iy k := by unfold py; rw [if_neg (by omega), if_pos (by omega)]; congr 1; omega
    unfold zt
    rw [p1, p2, hx, hy, e40]
    ext
    · simp only [corG, fg, add_x, sub_x, sc, c1, c2]; grind
    · simp only [corG, fg, add_y, sub_y, sc, c3, c4]; grind
  · have p1 : px (2 * 40 + k) = ix (40 - k) := by unfold px; rw [if_neg (by omega), if_neg (by omega), if_pos (by omega)]; congr 1; omega
    have p2 : py (2 * 40 + k) = iy 40 := by unfold py; rw [if_neg (by omega), if_neg (by omega), if_pos (by omega)]
    unfold zt
    rw [p1, p2, hx, hy, e40, hsub]
    ext
    · simp only [corG, fg, add_x, sub_x, sc, c1, c2]; grind
    · simp only [corG, fg, add_y, sub_y, sc, c3, c4]; grind
  · have p1 : px (3 * 40 + k) = ix 0 := by unfold px; rw [if_neg (by omega), if_neg (by omega), if_neg (by omega)]
    have p2 : py (3 * 40 + k) = iy (40 - k) := by unfold py; rw [if_neg (by omega), if_neg (by omega), if_neg (by omega)]; congr 1; omega
    unfold zt
    rw [p1, p2, hx, hy, e0, hsub]
    ext
    · simp only [corG, fg, add_x, sub_x, sc, c1, c2]; grind
    · simp only [corG, fg, add_y, sub_y, sc, c3, c4]; grind
/-- A root's number at a step: near to that of the points without error. -/
theorem root_step {j : Nat} {X : G} {A B : Int} {i : Nat} {Z Z' : G} (hj : j < 4) (hx : X.x * 2560 = (A : Rat)) (hy : X.y * 2560 = (B : Rat)) (h : stepOk j A B i = true) (h' : stepOk j A B (nx 160 i) = true) (hZ : Bd (Z - zt i) (1/100000)) (hZ' : Bd (Z' - zt (nx 160 i)) (1/100000)) :
    0 < ((Z' - X) * conj (Z - X)).x ∧ (∃ t, ((Z' - X) * conj (Z - X)).y = t * ((Z' - X) * conj (Z - X)).x ∧ Ab t (bj j) ∧ Ab (T t - T (ti A B i)) (9/1000000)) ∧ 599/100 * (599/100) ≤ N (Z - X) := by
  obtain ⟨r1, r2, r3, r4, r5, _⟩ := step_R h
  obtain ⟨_, _, _, _, r5', _⟩ := step_R h'
  have hz : ∀ i : Nat, (235929600:Rat) ≤ ((px i - A : Int) : Rat) * ((px i - A : Int) : Rat) + ((py i - B : Int) : Rat) * ((py i - B : Int) : Rat) → 36 ≤ N (zt i - X) := by
    intro i h
    rw [Rat.intCast_sub, Rat.intCast_sub, ← hx, ← hy] at h
    unfold N zt
    simp only [sub_x, sub_y]
    have e1 : (px i : Rat) - X.x * 2560 = ((px i : Rat) / 2560 - X.x) * 2560 := by grind
    have e2 : (py i : Rat) - X.y * 2560 = ((py i : Rat) / 2560 - X.y) * 2560 := by grind
    rw [e1, e2] at h
    generalize (px i : Rat) / 2560 - X.x = u at *
    generalize (py i : Rat) / 2560 - X.y = v at *
    grind
  have hd : ∀ (Z : G) (i : Nat), Bd (Z - zt i) (1/100000) → 36 ≤ N (zt i - X) → Le (Z - zt i) (1/400000) (zt i - X) := by
    intro Z i h1 h2
    refine ⟨by decide +kernel, ?_⟩
    have := N_bd h1
    grind
  have n1 := hz i r5
  have n2 := hz _ r5'
  have d1 := hd Z i hZ n1
  have d2 := hd Z' _ hZ' n2
  have dc : Le (conj (Z - zt i)) (1/400000) (conj (zt i - X)) := ⟨d1.1, by rw [N_conj, N_conj]; exact d1.2⟩
  have a1 := d2.mul (Le.self (conj (zt i - X)))
  have a2 := (Le.self (zt (nx 160 i) - X)).mul dc
  have a3 := d2.mul dc
  have a4 := (a1.add a2).add a3
  have e : (Z' - zt (nx 160 i)) * conj (zt i - X) + (zt (nx 160 i) - X) * conj (Z - zt i) + (Z' - zt (nx 160 i)) * conj (Z - zt i) = (Z' - X) * conj (Z - X) - (zt (nx 160 i) - X) * conj (zt i - X) := by
    ext <;> simp <;> grind
  rw [e] at a4
  have a5 := a4.mono (show (1/400000 * 1 + 1 * (1/400000) + 1/400000 * (1/400000) : Rat) ≤ 52/10000000 by decide +kernel)
  have wx : ((zt (nx 160 i) - X) * conj (zt i - X)).x * 6553600 = (wre A B i : Rat) := by
    unfold wre zt
    simp only [mul_x, conj_x, conj_y, sub_x, sub_y, Rat.intCast_add, Rat.intCast_mul, Rat.intCast_sub, ← hx, ← hy]
    grind
  have wy : ((zt (nx 160 i) - X) * conj (zt i - X)).y * 6553600 = (wim A B i : Rat) := by
    unfold wim zt
    simp only [mul_y, conj_x, conj_y, sub_x, sub_y, Rat.intCast_mul, Rat.intCast_sub, ← hx, ← hy]
    grind
  have x0 : 0 < ((zt (nx 160 i) - X) * conj (zt i - X)).x := by rw [← wx] at r1; grind
  have yt : ((zt (nx 160 i) - X) * conj (zt i - X)).y = ti A B i * ((zt (nx 160 i) - X) * conj (zt i - X)).x := by rw [← wx, ← wy] at r2; grind
  have hbj : ∀ j : Nat, j < 4 → bjr j + 9/1000000 ≤ bj j ∧ bj j ≤ 7/100 := by decide +kernel
  obtain ⟨hb1, hb2⟩ := hbj j hj
  obtain ⟨p1, t, p2, p3⟩ := near_t x0 yt (show Ab (ti A B i) (1/4) by unfold Ab; grind) a5 (by decide +kernel)
  have p4 := p3.mono (show (52/10000000 * (14/10) : Rat) ≤ 73/10000000 by decide +kernel)
  have p5 : Ab t (bj j) := by unfold Ab at *; grind
  refine ⟨p1, ⟨t, p2, p5, ?_⟩, ?_⟩
  · exact (T_near (p5.mono (by grind)) (show Ab (ti A B i) (3/10) by unfold Ab; grind) p4).mono (by decide +kernel)
  · have d3 : Le ((Z - X) - (zt i - X)) (1/400000) (zt i - X) := by
      rwa [show Z - X - (zt i - X) = Z - zt i by ext <;> simp <;> grind]
    have d4 := Le.inv d3 (p := 1001/1000) (by decide +kernel) (by decide +kernel) (by decide +kernel)
    have := d4.2
    grind

/-! The turns around the great box are nearly the number of roots. No condition but the sizes. -/
theorem scale_up {A P : G} {e g : Rat} (h : Le A e one_) (h0 : 0 ≤ g) (hg : g * g ≤ N P) (he : e ≤ 47/1000000 * g) : Le A (47/1000000) P := by
  refine ⟨by decide +kernel, ?_⟩
  have h1 := of_le_one h
  have h2 := mul_mono h.1 h.1 he he
  have h3 := Rat.mul_le_mul_of_nonneg_left hg (show (0:Rat) ≤ 47/1000000 * (47/1000000) by decide +kernel)
  grind
theorem en_ok : ∀ n : Nat, n < 5 → 1 ≤ n → en n ≤ 47/1000000 * gp (fun _ => 599/100) n ∧ 0 ≤ gp (fun _ => 599/100) n ∧ bn n ≤ 2482/10000 ∧ ep n ≤ 26/1000000 ∧ ri n ≤ 4 ∧ 0 ≤ ri n := by decide +kernel
theorem sum_near {a b : Nat → Rat} {c e : Rat} : ∀ m, (∀ i, i < m → Ab (a i * c - b i) e) → Ab (sumR a m * c - sumR b m) (ri m * e) := by
  intro m
  induction m with
  | zero => intro _; show Ab (0 * c - 0) (ri 0 * e); unfold ri; exact ⟨by grind, by grind⟩
  | succ m ih =>
    intro h
    have := (ih (fun i hi => h i (by omega))).add (h m (by omega))
    show Ab ((sumR a m + a m) * c - (sumR b m + b m)) _
    rw [ri_succ, show (sumR a m + a m) * c - (sumR b m + b m) = (sumR a m * c - sumR b m) + (a m * c - b m) by grind]
    exact this.mono (by grind)
theorem sumR_zero : ∀ m, sumR (fun _ => 0) m = 0 := by
  intro m
  induction m with
  | zero => rfl
  | succ m ih => show sumR (fun _ => 0) m + 0 = 0; rw [ih]; decide +kernel
theorem sumR_one : ∀ m, sumR (fun _ => 1) m = ri m := by
  intro m
  induction m with
  | zero => rfl
  | succ m ih => show sumR (fun _ => 1) m + 1 = _; rw [ih, ri_succ]
theorem sumR_add (f g : Nat → Rat) : ∀ m, sumR (fun i => f i + g i) m = sumR f m + sumR g m := by
  intro m
  induction m with
  | zero => show (0:Rat) = 0 + 0; decide +kernel
  | succ m ih => show sumR (fun i => f i + g i) m + (f m + g m) = (sumR f m + f m) + (sumR g m + g m); rw [ih]; grind
theorem sumR_swap (f : Nat → Nat → Rat) (m : Nat) : ∀ n, sumR (fun i => sumR (fun j => f i j) n) m = sumR (fun j => sumR (fun i => f i j) m) n := by
  intro n
  induction n with
  | zero => show sumR (fun _ => 0) m = 0; exact sumR_zero m
  | succ n ih =>
    show sumR (fun i => sumR (fun j => f i j) n + f i n) m = sumR (fun j => sumR (fun i => f i j) m) n + sumR (fun i => f i n) m
    rw [sumR_add (fun i => sumR (fun j => f i j) n) (fun i => f i n) m, ih]
theorem main_R {r : Nat → G} {n : Nat} {ys : List C} {s : Nat} {σ : Rat} {Z W V : Nat → G} {α : Nat → Rat} (hn : n ≤ 4) (hn1 : 1 ≤ n) (hrt : ∀ i, i < n → Rt i (r i)) (h : BoxAll r n ys (fw 0 0) (fw 8 8) (fg 0 0) (fg 8 8) 40 s σ (en n) Z W V α) : Ab (σ - ri n) (84/10000) := by
  obtain ⟨c1, c2, c3, c4, c5, c6⟩ := en_ok n (by omega) hn1
  have key : ∀ j, ∃ a b : Nat, j < n → a < 5 ∧ b < 17 ∧ (r j).x * 2560 = (qx j a : Rat) ∧ (r j).y * 2560 = (qy b : Rat) := by
    intro j
    by_cases hj : j < n
    · obtain ⟨a, b, k⟩ := rt_root (hrt j hj)
      exact ⟨a, b, fun _ => k⟩
    · exact ⟨0, 0, fun k => absurd k hj⟩
  obtain ⟨a, ha⟩ : ∃ a : Nat → Nat, ∀ j, ∃ b : Nat, j < n → a j < 5 ∧ b < 17 ∧ (r j).x * 2560 = (qx j (a j) : Rat) ∧ (r j).y * 2560 = (qy b : Rat) := ⟨fun j => (key j).choose, fun j => (key j).choose_spec⟩
  obtain ⟨b, hab⟩ : ∃ b : Nat → Nat, ∀ j, j < n → a j < 5 ∧ b j < 17 ∧ (r j).x * 2560 = (qx j (a j) : Rat) ∧ (r j).y * 2560 = (qy (b j) : Rat) := ⟨fun j => (ha j).choose, fun j => (ha j).choose_spec⟩
  clear key ha
  have hZ : ∀ i, i < 160 → Bd (Z i - zt i) (1/100000) := by
    intro i hi
    obtain ⟨s', k, hs, hk, rfl⟩ := split_i (m := 40) (i := i) (by omega) (by omega)
    have := h.zn s' k hs hk
    rwa [zt_eq hs hk] at this
  have hlow : ∀ i, i < 160 → ∀ j, j < n → 599/100 * (599/100) ≤ N (Z i - r j) := by
    intro i hi j hj
    obtain ⟨h1, h2, h3, h4⟩ := hab j hj
    obtain ⟨hst, _⟩ := turn_sum (j := j) (by omega) h1 h2
    exact (root_step (by omega) h3 h4 (hst i hi) (hst _ (nx_lt hi)) (hZ i hi) (hZ _ (nx_lt hi))).2.2
  have hP : ∀ i, i < 160 → gp (fun _ => 599/100) n * gp (fun _ => 599/100) n ≤ N (P0 r n (Z i)) := fun i hi => P0_low n (fun j hj => ⟨by decide +kernel, hlow i hi j hj⟩)
  have hWP : ∀ i, i < 160 → Le (W i - P0 r n (Z i)) (47/1000000) (P0 r n (Z i)) := fun i hi => scale_up (h.wn i (by omega)) c2 (hP i hi) c1
  have hstep : ∀ i, i < 160 → Ab (α i * tau - sumR (fun j => T (ti (qx j (a j)) (qy (b j)) i)) n) (26/100000) := by
    intro i hi
    have hi' := nx_lt hi
    have key : ∀ j, ∃ t : Rat, j < n → 0 < ((Z (nx 160 i) - r j) * conj (Z i - r j)).x ∧ ((Z (nx 160 i) - r j) * conj (Z i - r j)).y = t * ((Z (nx 160 i) - r j) * conj (Z i - r j)).x ∧ Ab t (bj j) ∧ Ab (T t - T (ti (qx j (a j)) (qy (b j)) i)) (9/1000000) := by
      intro j
      by_cases hj : j < n
      · obtain ⟨h1, h2, h3, h4⟩ := hab j hj
        obtain ⟨hst, _⟩ := turn_sum (j := j) (by omega) h1 h2
        obtain ⟨k1, ⟨t, k2, k3, k4⟩, _⟩ := root_step (Z := Z i) (Z' := Z (nx 160 i)) (by omega) h3 h4 (hst i hi) (hst _ hi') (hZ i hi) (hZ _ hi')
        exact ⟨t, fun _ => ⟨k1, k2, k3, k4⟩⟩
      · exact ⟨0, fun k => absurd k hj⟩
    obtain ⟨t, ht⟩ : ∃ t : Nat → Rat, ∀ j, j < n → 0 < ((Z (nx 160 i) - r j) * conj (Z i - r j)).x ∧ ((Z (nx 160 i) - r j) * conj (Z i - r j)).y = t j * ((Z (nx 160 i) - r j) * conj (Z i - r j)).x ∧ Ab (t j) (bj j) ∧ Ab (T (t j) - T (ti (qx j (a j)) (qy (b j)) i)) (9/1000000) := ⟨fun j => (key j).choose, fun j => (key j).choose_spec⟩
    clear key
    obtain ⟨x0, u, hu, hub, hue⟩ := prod_t (r := r) (Z := Z i) (Z' := Z (nx 160 i)) (t := t) n hn (fun j hj => ⟨(ht j hj).1, (ht j hj).2.1, (ht j hj).2.2.1⟩)
    rw [Xp_eq] at x0 hu
    have hq := near_quot (hWP i hi) (hWP _ hi') (h.q i (by omega)) (Rat.le_refl)
    have hq2 := hq.mul (Le.self (conj (P0 r n (Z i))))
    rw [sub_mul] at hq2
    have hu4 : Ab u (1/4) := hub.mono (by grind)
    obtain ⟨y0, t2, ht2, ht3⟩ := near_t x0 hu hu4 (hq2.mono (show (1/10000 * 1 : Rat) ≤ 1/10000 by decide +kernel)) (by decide +kernel)
    obtain ⟨P, hPd⟩ : ∃ P, P = P0 r n (Z i) := ⟨_, rfl⟩
    rw [← hPd] at y0 ht2
    have ex : (V i * P * conj P).x = (V i).x * N P := by unfold N; simp only [mul_x, mul_y, conj_x, conj_y]; grind
    have ey : (V i * P * conj P).y = (V i).y * N P := by unfold N; simp only [mul_x, mul_y, conj_x, conj_y]; grind
    rw [ex] at y0
    rw [ex, ey] at ht2
    have hN0 := N_nn P
    have hNp : 0 < N P := by
      by_cases h0 : N P = 0
      · rw [h0] at y0; grind
      · grind
    have hvx : 0 < (V i).x := by
      by_cases h0 : 0 < (V i).x
      · exact h0
      · exfalso
        have := Rat.mul_le_mul_of_nonneg_right (show (V i).x ≤ 0 by grind) hN0
        grind
    have hvy : (V i).y = t2 * (V i).x := by
      have : ((V i).y - t2 * (V i).x) * N P = 0 := by grind
      have : (V i).y - t2 * (V i).x = 0 := by grind
      grind
    have ht4 : Ab (t2 - u) (14/100000) := ht3.mono (by decide +kernel)
    have ht5 : Ab t2 (249/1000) := by unfold Ab at *; grind
    have hA := h.ang i (by omega) t2 hvx hvy ht5
    have hB := T_near (ht5.mono (by decide +kernel)) (hub.mono (show bn n ≤ 3/10 by grind)) ht4
    have hC := sum_near (c := 1) (e := 9/1000000) (a := fun j => T (t j)) (b := fun j => T (ti (qx j (a j)) (qy (b j)) i)) n (fun j hj => by
      have := (ht j hj).2.2.2
      rwa [show T (t j) * 1 - T (ti (qx j (a j)) (qy (b j)) i) = T (t j) - T (ti (qx j (a j)) (qy (b j)) i) by grind])
    have hC2 : Ab (sumR (fun j => T (t j)) n * 1 - sumR (fun j => T (ti (qx j (a j)) (qy (b j)) i)) n) (36/1000000) := hC.mono (by grind)
    have hD := hue.mono c4
    have hB2 := hB.mono (show (14/100000 * (11/10) : Rat) ≤ 154/1000000 by decide +kernel)
    clear hC hB hue
    generalize sumR (fun j => T (t j)) n = A1 at *
    generalize sumR (fun j => T (ti (qx j (a j)) (qy (b j)) i)) n = A2 at *
    generalize T t2 = A3 at *
    generalize T u = A4 at *
    generalize α i * tau = A5 at *
    clear hq hq2 hP hlow hZ hWP hab ht h
    unfold Ab at *
    constructor <;> grind
  have hS := sum_near 160 hstep
  rw [sumR_swap (fun i j => T (ti (qx j (a j)) (qy (b j)) i)) 160 n] at hS
  have hT := sum_near (a := fun _ => 1) (c := tau) (e := 1/50000) (b := fun j => sumR (fun i => T (ti (qx j (a j)) (qy (b j)) i)) 160) n (fun j hj => by
    obtain ⟨h1, h2, _, _⟩ := hab j hj
    obtain ⟨_, k⟩ := turn_sum (j := j) (by omega) h1 h2
    have := k.neg
    rwa [show -(sumR (fun i => T (ti (qx j (a j)) (qy (b j)) i)) 160 - tau) = 1 * tau - sumR (fun i => T (ti (qx j (a j)) (qy (b j)) i)) 160 by grind] at this)
  rw [sumR_one] at hT
  have hsum : Ab (σ - sumR α 160) (ri 160 * (1/100000)) := h.sum
  have e160 : ri 160 = 160 := by unfold ri; rfl
  rw [e160] at hS hsum
  have hT2 := hT.mono (show ri n * (1/50000) ≤ 8/100000 by grind)
  have k : Ab ((sumR α 160 - ri n) * tau) (4168/100000) := by
    have e : (sumR α 160 - ri n) * tau = (sumR α 160 * tau - sumR (fun j => sumR (fun i => T (ti (qx j (a j)) (qy (b j)) i)) 160) n) - (ri n * tau - sumR (fun j => sumR (fun i => T (ti (qx j (a j)) (qy (b j)) i)) 160) n) := by grind
    rw [e]
    exact (hS.sub hT2).mono (by decide +kernel)
  have htau := tau_b
  have htp : 0 < tau := by grind
  have k2 : Ab (sumR α 160 - ri n) (664/100000) := by
    have h1 : (4168/100000 : Rat) ≤ 664/100000 * tau := by
      have := Rat.mul_le_mul_of_nonneg_left htau.1 (show (0:Rat) ≤ 664/100000 by decide +kernel)
      have h2 : (4168/100000 : Rat) ≤ 664/100000 * (62831853/10000000) := by decide +kernel
      grind
    have k' := k.mono h1
    constructor
    · exact le_of_mul htp (by have := k'.1; grind)
    · exact le_of_mul htp k'.2
  have := hsum.add k2
  rw [show σ - sumR α 160 + (sumR α 160 - ri n) = σ - ri n by grind] at this
  exact this.mono (by decide +kernel)
end Go.Proofs.Ytlhdgbiaiacpfaa
