/- Numbers behind the words, on: complex numbers. -/
import Derived.Test.YtlhdgbiaiacpfaaF
import Derived.Test.YtlhdgbiaiacpfaaN3
namespace Go.Proofs.Ytlhdgbiaiacpfaa
open Go.RowKit Num Ieee

theorem flip_read (f : Format) (b : Nat) (hs : f.signWeight = 2 ^ (f.exponentBits + f.fractionBits)) : f.read (b ^^^ 2 ^ (f.exponentBits + f.fractionBits)) = (f.read b).opposite := by
  have e1 : (b ^^^ 2 ^ (f.exponentBits + f.fractionBits)) % f.signWeight = b % f.signWeight := by
    rw [hs, Nat.xor_mod_two_pow]; simp
  have e2 : ((b ^^^ 2 ^ (f.exponentBits + f.fractionBits)) / f.signWeight % 2 == 1) = !(b / f.signWeight % 2 == 1) := by
    rw [hs, Nat.xor_div_two_pow, Nat.div_self (Nat.two_pow_pos _)]
    have h := Nat.xor_mod_two_pow (a := b / 2 ^ (f.exponentBits + f.fractionBits)) (b := 1) (n := 1)
    rw [Nat.pow_one] at h
    rw [h]
    rcases Nat.mod_two_eq_zero_or_one (b / 2 ^ (f.exponentBits + f.fractionBits)) with h | h <;> rw [h] <;> rfl
  unfold Format.read
  simp only [e1, e2]
  generalize (b / f.signWeight % 2 == 1) = neg
  split
  · rfl
  · split
    · rfl
    · split <;> rfl
theorem R_opp {f : Format} {a b : Nat} {x : Rat} (h : R f a x) (e : f.read b = (f.read a).opposite) : R f b (-x) := by
  obtain ⟨s, m, p, h1, h2⟩ := h
  rw [h1] at e
  exact ⟨!s, m, p, e, by rw [← h2]; cases s <;> simp only [vD] <;> simp <;> grind⟩
theorem neg32_R {a : Nat} {x : Rat} (h : R single a x) : R single (neg32 a) (-x) := R_opp h (flip_read single a rfl)
theorem neg64_R {a : Nat} {x : Rat} (h : R double a x) : R double (neg64 a) (-x) := R_opp h (flip_read double a rfl)
theorem sub_self_R {f : Format} {a : Nat} {x : Rat} (h : R f a x) : f.sub a a = some (f.word false 0) := by
  obtain ⟨s, m, p, h1, h2⟩ := h
  unfold Format.sub
  rw [h1]
  have e0 : signed s m (p - min p p).toNat + signed (!s) m (p - min p p).toNat = 0 := by
    unfold signed; cases s <;> simp <;> omega
  have e : (Datum.number s m p).sum (Datum.number s m p).opposite = some (.number false 0 (min p p)) := by
    show some (Datum.number _ _ _) = _
    rw [e0]; cases s <;> rfl
  rw [e]
  rfl
theorem Fin_R {a : Nat} {x : Rat} (h : R single a x) : floatBits .sub .f32 a a = some 0 := sub_self_R h
theorem wid_R {a : Nat} {x : Rat} (h : R single a x) : ∃ w, wid a = some w ∧ R double w x := by
  obtain ⟨s, m, p, h1, h2, h3⟩ := widen h
  refine ⟨_, ?_, h3⟩
  unfold wid floatToFloatBits
  have e : FloatKind.f32.decode a = .number s m p := h1
  have e2 : (FloatKind.f64.decode (FloatKind.f64.encode (.number s m p))).isInfinity = false := h2
  rw [if_neg (by decide), e]
  simp only [e2, Bool.false_eq_true, if_false]
  rfl
theorem nar_R {a : Nat} {x B : Rat} (h : R double a x) (hb : Ab x B) (hB : B ≤ huge) : ∃ w v, nar a = some w ∧ R single w v ∧ Near single x v := by
  obtain ⟨s, m, p, v, h1, h2, h3, h4⟩ := narrow h hb hB
  refine ⟨_, v, ?_, h3, h4⟩
  unfold nar floatToFloatBits
  have e : FloatKind.f64.decode a = .number s m p := h1
  have e2 : (FloatKind.f32.decode (FloatKind.f32.encode (.number s m p))).isInfinity = false := h2
  rw [if_neg (by decide), e]
  simp only [e2, Bool.false_eq_true, if_false]
  rfl

/-! Complex numbers of rational parts. -/
@[ext] structure G where
  x : Rat
  y : Rat
namespace G
instance : Add G := ⟨fun a b => ⟨a.x + b.x, a.y + b.y⟩⟩
instance : Sub G := ⟨fun a b => ⟨a.x - b.x, a.y - b.y⟩⟩
instance : Mul G := ⟨fun a b => ⟨a.x * b.x - a.y * b.y, a.x * b.y + a.y * b.x⟩⟩
instance : Neg G := ⟨fun a => ⟨-a.x, -a.y⟩⟩
@[simp] theorem add_x (a b : G) : (a + b).x = a.x + b.x := rfl
@[simp] theorem add_y (a b : G) : (a + b).y = a.y + b.y := rfl
@[simp] theorem sub_x (a b : G) : (a - b).x = a.x - b.x := rfl
@[simp] theorem sub_y (a b : G) : (a - b).y = a.y - b.y := rfl
@[simp] theorem mul_x (a b : G) : (a * b).x = a.x * b.x - a.y * b.y := rfl
@[simp] theorem mul_y (a b : G) : (a * b).y = a.x * b.y + a.y * b.x := rfl
@[simp] theorem neg_x (a : G) : (-a).x = -a.x := rfl
@[simp] theorem neg_y (a : G) : (-a).y = -a.y := rfl
def sc (r : Rat) (a : G) : G := ⟨a.x * r, a.y * r⟩
@[simp] theorem sc_x (r : Rat) (a : G) : (sc r a).x = a.x * r := rfl
@[simp] theorem sc_y (r : Rat) (a : G) : (sc r a).y = a.y * r := rfl
def N (a : G) : Rat := a.x * a.x + a.y * a.y
def conj (a : G) : G := ⟨a.x, -a.y⟩
@[simp] theorem conj_x (a : G) : (conj a).x = a.x := rfl
@[simp] theorem conj_y (a : G) : (conj a).y = -a.y := rfl
end G
open G
/-- Both parts are at most e. -/
def Bd (X : G) (e : Rat) : Prop := Ab X.x e ∧ Ab X.y e
def OnG (t : Int) (X : G) : Prop := On t X.x ∧ On t X.y
theorem Bd.nn {X : G} {e : Rat} (h : Bd X e) : 0 ≤ e := h.1.nn
theorem Bd.mono {X : G} {e e' : Rat} (h : Bd X e) (k : e ≤ e') : Bd X e' := ⟨h.1.mono k, h.2.mono k⟩
theorem Bd.add {X Y : G} {a b : Rat} (h : Bd X a) (k : Bd Y b) : Bd (X + Y) (a + b) := ⟨h.1.add k.1, h.2.add k.2⟩
theorem Bd.sub {X Y : G} {a b : Rat} (h : Bd X a) (k : Bd Y b) : Bd (X - Y) (a + b) := ⟨h.1.sub k.1, h.2.sub k.2⟩
theorem Bd.mul {X Y : G} {a b : Rat} (h : Bd X a) (k : Bd Y b) : Bd (X * Y) (2 * (a * b)) := by
  have h1 := h.1.mul k.1
  have h2 := h.2.mul k.2
  have h3 := h.1.mul k.2
  have h4 := h.2.mul k.1
  unfold Bd Ab at *
  simp only [mul_x, mul_y]
  grind
theorem Bd.conj {X : G} {a : Rat} (h : Bd X a) : Bd (conj X) a := ⟨h.1, h.2.neg⟩
theorem OnG.add {t : Int} {X Y : G} (h : OnG t X) (k : OnG t Y) : OnG t (X + Y) := ⟨h.1.add k.1, h.2.add k.2⟩
theorem OnG.sub {t : Int} {X Y : G} (h : OnG t X) (k : OnG t Y) : OnG t (X - Y) := ⟨h.1.sub k.1, h.2.sub k.2⟩
theorem OnG.mul {t s : Int} {X Y : G} (h : OnG t X) (k : OnG s Y) : OnG (t + s) (X * Y) :=
  ⟨(h.1.mul k.1).sub (h.2.mul k.2), (h.1.mul k.2).add (h.2.mul k.1)⟩
theorem OnG.lower {t s : Int} {X : G} (h : OnG t X) (hs : s ≤ t) : OnG s X := ⟨h.1.lower hs, h.2.lower hs⟩

/-- The words stand for the complex number. -/
def RC (z : C) (X : G) : Prop := R single z.1 X.x ∧ R single z.2 X.y
def RD (z : Nat × Nat) (X : G) : Prop := R double z.1 X.x ∧ R double z.2 X.y
theorem conj_R {z : C} {X : G} (h : RC z X) : RC (conjC z) (conj X) := ⟨h.1, neg32_R h.2⟩
theorem RC.on {z : C} {X : G} (h : RC z X) : OnG (-149) X := ⟨R_on_s h.1, R_on_s h.2⟩

theorem e53v : e53 = 1 / 9007199254740992 := rfl
theorem e24v : e24 = 1 / 16777216 := rfl
theorem tiny4 : tiny * tiny * tiny * tiny ≤ tiny * tiny := by decide +kernel
theorem tiny1 : tiny * tiny ≤ tiny := by decide +kernel
theorem hh : huge ≤ huge * huge := by decide +kernel

/-- One of the two parts of a product: a * c + b * d. -/
theorem part_add {a b c d : Nat} {x y z u A B M : Rat} (ha : R double a x) (hb : R double b y) (hc : R double c z) (hd : R double d u)
    (hx : Ab x A) (hy : Ab y A) (hz : Ab z B) (hu : Ab u B) (hM : M = A * B) (h1 : tiny * tiny ≤ M) (h2 : M ≤ huge) :
    ∃ p q r v, mul64 a c = some p ∧ mul64 b d = some q ∧ add64 p q = some r ∧ R double r v ∧ Ab (v - (x * z + y * u)) (M * (5 * e53)) := by
  have k1 := hx.mul hz
  have k2 := hy.mul hu
  rw [← hM] at k1 k2
  have ht := tiny4
  have hg := hh
  have h4 : huge * 4 ≤ huge * huge := by decide +kernel
  have h5 : 0 < tiny * tiny := by decide +kernel
  obtain ⟨p, P, p1, p2, p3⟩ := mul_d ha hc k1 (by grind)
  obtain ⟨q, Q, q1, q2, q3⟩ := mul_d hb hd k2 (by grind)
  have p4 := near_d p3 k1 (by grind)
  have q4 := near_d q3 k2 (by grind)
  have he : e53 = 1 / 9007199254740992 := rfl
  generalize x * z = X at *
  generalize y * u = Y at *
  have hb1 : Ab (P + Q) (M * 3) := by clear hM hx hy hz hu ha hb hc hd p3 q3 p2 q2 he; unfold e53 Ab at *; grind
  obtain ⟨r, V, r1, r2, r3⟩ := add_d p2 q2 hb1 (by grind)
  have r4 := near_d r3 hb1 (by grind)
  exact ⟨p, q, r, V, p1, q1, r1, r2, by clear hM hx hy hz hu ha hb hc hd p3 q3 r3 p2 q2 r2 he; unfold e53 Ab at *; grind⟩
theorem part_sub {a b c d : Nat} {x y z u A B M : Rat} (ha : R double a x) (hb : R double b y) (hc : R double c z) (hd : R double d u)
    (hx : Ab x A) (hy : Ab y A) (hz : Ab z B) (hu : Ab u B) (hM : M = A * B) (h1 : tiny * tiny ≤ M) (h2 : M ≤ huge) :
    ∃ p q r v, mul64 a c = some p ∧ mul64 b d = some q ∧ sub64 p q = some r ∧ R double r v ∧ Ab (v - (x * z - y * u)) (M * (5 * e53)) := by
  have k1 := hx.mul hz
  have k2 := hy.mul hu
  rw [← hM] at k1 k2
  have ht := tiny4
  have hg := hh
  have h4 : huge * 4 ≤ huge * huge := by decide +kernel
  have h5 : 0 < tiny * tiny := by decide +kernel
  obtain ⟨p, P, p1, p2, p3⟩ := mul_d ha hc k1 (by grind)
  obtain ⟨q, Q, q1, q2, q3⟩ := mul_d hb hd k2 (by grind)
  have p4 := near_d p3 k1 (by grind)
  have q4 := near_d q3 k2 (by grind)
  have he : e53 = 1 / 9007199254740992 := rfl
  generalize x * z = X at *
  generalize y * u = Y at *
  have hb1 : Ab (P - Q) (M * 3) := by clear hM hx hy hz hu ha hb hc hd p3 q3 p2 q2 he; unfold e53 Ab at *; grind
  obtain ⟨r, V, r1, r2, r3⟩ := sub_d p2 q2 hb1 (by grind)
  have r4 := near_d r3 hb1 (by grind)
  exact ⟨p, q, r, V, p1, q1, r1, r2, by clear hM hx hy hz hu ha hb hc hd p3 q3 r3 p2 q2 r2 he; unfold e53 Ab at *; grind⟩
/-- The same where all is exact. -/
theorem part_add_on {a b c d : Nat} {x y z u A B : Rat} {t s : Int} (ha : R double a x) (hb : R double b y) (hc : R double c z) (hd : R double d u)
    (hx : Ab x A) (hy : Ab y A) (hz : Ab z B) (hu : Ab u B) (hM : 2 * (A * B) < (2:Rat)^(53 + (t + s))) (h2 : 2 * (A * B) ≤ huge)
    (ox : On t x) (oy : On t y) (oz : On s z) (ou : On s u) (hts : -1074 ≤ t + s) :
    ∃ p q r, mul64 a c = some p ∧ mul64 b d = some q ∧ add64 p q = some r ∧ R double r (x * z + y * u) := by
  have k1 := hx.mul hz
  have k2 := hy.mul hu
  have hn := k1.nn
  have hg := hh
  obtain ⟨p, P, p1, p2, p3⟩ := mul_d ha hc k1 (by grind)
  obtain ⟨q, Q, q1, q2, q3⟩ := mul_d hb hd k2 (by grind)
  have p4 := near_on_d p3 (ox.mul oz) k1 (by grind) hts
  have q4 := near_on_d q3 (oy.mul ou) k2 (by grind) hts
  subst p4 q4
  have k3 := k1.add k2
  obtain ⟨r, V, r1, r2, r3⟩ := add_d p2 q2 k3 (by grind)
  have r4 := near_on_d r3 ((ox.mul oz).add (oy.mul ou)) k3 (by grind) hts
  subst r4
  exact ⟨p, q, r, p1, q1, r1, r2⟩
theorem part_sub_on {a b c d : Nat} {x y z u A B : Rat} {t s : Int} (ha : R double a x) (hb : R double b y) (hc : R double c z) (hd : R double d u)
    (hx : Ab x A) (hy : Ab y A) (hz : Ab z B) (hu : Ab u B) (hM : 2 * (A * B) < (2:Rat)^(53 + (t + s))) (h2 : 2 * (A * B) ≤ huge)
    (ox : On t x) (oy : On t y) (oz : On s z) (ou : On s u) (hts : -1074 ≤ t + s) :
    ∃ p q r, mul64 a c = some p ∧ mul64 b d = some q ∧ sub64 p q = some r ∧ R double r (x * z - y * u) := by
  have k1 := hx.mul hz
  have k2 := hy.mul hu
  have hn := k1.nn
  have hg := hh
  obtain ⟨p, P, p1, p2, p3⟩ := mul_d ha hc k1 (by grind)
  obtain ⟨q, Q, q1, q2, q3⟩ := mul_d hb hd k2 (by grind)
  have p4 := near_on_d p3 (ox.mul oz) k1 (by grind) hts
  have q4 := near_on_d q3 (oy.mul ou) k2 (by grind) hts
  subst p4 q4
  have k3 := k1.sub k2
  obtain ⟨r, V, r1, r2, r3⟩ := sub_d p2 q2 k3 (by grind)
  have r4 := near_on_d r3 ((ox.mul oz).sub (oy.mul ou)) k3 (by grind) hts
  subst r4
  exact ⟨p, q, r, p1, q1, r1, r2⟩

theorem timesO_R {u v : C} {X Y : G} {A B : Rat} (hu : RC u X) (hv : RC v Y) (hX : Bd X A) (hY : Bd Y B) (h1 : tiny * tiny ≤ A * B) (h2 : A * B ≤ huge) :
    ∃ t T, timesO u v = some t ∧ RD t T ∧ Bd (T - X * Y) (A * B * (5 * e53)) := by
  obtain ⟨a, a1, a2⟩ := wid_R hu.1
  obtain ⟨b, b1, b2⟩ := wid_R hu.2
  obtain ⟨c, c1, c2⟩ := wid_R hv.1
  obtain ⟨d, d1, d2⟩ := wid_R hv.2
  obtain ⟨p, q, r, V, p1, p2, p3, p4, p5⟩ := part_sub a2 b2 c2 d2 hX.1 hX.2 hY.1 hY.2 rfl h1 h2
  obtain ⟨p', q', r', V', q1, q2, q3, q4, q5⟩ := part_add a2 b2 d2 c2 hX.1 hX.2 hY.2 hY.1 rfl h1 h2
  refine ⟨(r, r'), ⟨V, V'⟩, ?_, ⟨p4, q4⟩, p5, q5⟩
  simp [timesO, a1, b1, c1, d1, p1, p2, p3, q1, q2, q3]
theorem timesO_on {u v : C} {X Y : G} {A B : Rat} {t s : Int} (hu : RC u X) (hv : RC v Y) (hX : Bd X A) (hY : Bd Y B) (ox : OnG t X) (oy : OnG s Y) (hts : -1074 ≤ t + s)
    (h1 : 2 * (A * B) < (2:Rat)^(53 + (t + s))) (h2 : 2 * (A * B) ≤ huge) : ∃ t, timesO u v = some t ∧ RD t (X * Y) := by
  obtain ⟨a, a1, a2⟩ := wid_R hu.1
  obtain ⟨b, b1, b2⟩ := wid_R hu.2
  obtain ⟨c, c1, c2⟩ := wid_R hv.1
  obtain ⟨d, d1, d2⟩ := wid_R hv.2
  obtain ⟨p, q, r, p1, p2, p3, p4⟩ := part_sub_on a2 b2 c2 d2 hX.1 hX.2 hY.1 hY.2 h1 h2 ox.1 ox.2 oy.1 oy.2 hts
  obtain ⟨p', q', r', q1, q2, q3, q4⟩ := part_add_on a2 b2 d2 c2 hX.1 hX.2 hY.2 hY.1 h1 h2 ox.1 ox.2 oy.2 oy.1 hts
  refine ⟨(r, r'), ?_, ⟨p4, q4⟩⟩
  simp [timesO, a1, b1, c1, d1, p1, p2, p3, q1, q2, q3]
theorem narC_R {t : Nat × Nat} {T : G} {B : Rat} (h : RD t T) (hb : Bd T B) (h2 : B ≤ huge) : ∃ m V, narC t = some m ∧ RC m V ∧ Near single T.x V.x ∧ Near single T.y V.y := by
  obtain ⟨a, x, a1, a2, a3⟩ := nar_R h.1 hb.1 h2
  obtain ⟨b, y, b1, b2, b3⟩ := nar_R h.2 hb.2 h2
  exact ⟨(a, b), ⟨x, y⟩, by simp [narC, a1, b1], ⟨a2, b2⟩, a3, b3⟩
/-- A product: off by no more than 2 A B e22. -/
theorem mulO_R {u v : C} {X Y : G} {A B : Rat} (hu : RC u X) (hv : RC v Y) (hX : Bd X A) (hY : Bd Y B) (h1 : tiny ≤ A * B) (h2 : A * B * 4 ≤ huge) :
    ∃ m V, mulO u v = some m ∧ RC m V ∧ Bd (V - X * Y) (A * B * (4 * e24)) := by
  have ht := tiny1
  have h0 : 0 < tiny := tiny_pos
  obtain ⟨t, T, t1, t2, t3⟩ := timesO_R hu hv hX hY (by grind) (by grind)
  have hXY := hX.mul hY
  generalize A * B = M at *
  have he : e53 = 1 / 9007199254740992 := rfl
  have he4 : e24 = 1 / 16777216 := rfl
  have hT : Bd T (M * 3) := by clear he he4 hX hY t1 t2 hu hv; unfold e53 Bd Ab at *; simp only [sub_x, sub_y] at t3; grind
  obtain ⟨m, V, m1, m2, m3, m4⟩ := narC_R t2 hT (by grind)
  have k3 := near_s m3 hT.1 (by grind)
  have k4 := near_s m4 hT.2 (by grind)
  refine ⟨m, V, by simp [mulO, t1, m1], m2, ?_⟩
  clear he he4 hX hY t1 t2 hu hv m1 m2 m3 m4
  unfold e53 e24 Bd Ab at *
  simp only [sub_x, sub_y] at *
  generalize (X * Y).x = P at *
  generalize (X * Y).y = Q at *
  grind
theorem mulO_on {u v : C} {X Y : G} {A B : Rat} {t s : Int} (hu : RC u X) (hv : RC v Y) (hX : Bd X A) (hY : Bd Y B) (ox : OnG t X) (oy : OnG s Y) (hts : -149 ≤ t + s)
    (h1 : 2 * (A * B) < (2:Rat)^(24 + (t + s))) (h2 : 2 * (A * B) ≤ huge) : ∃ m, mulO u v = some m ∧ RC m (X * Y) := by
  have hle := pw_mono (show 24 + (t + s) ≤ 53 + (t + s) by omega)
  obtain ⟨w, w1, w2⟩ := timesO_on hu hv hX hY ox oy (by omega) (by grind) h2
  have hXY := hX.mul hY
  obtain ⟨m, V, m1, m2, m3, m4⟩ := narC_R w2 hXY h2
  have e1 := near_on_s m3 (ox.mul oy).1 hXY.1 h1 hts
  have e2 := near_on_s m4 (ox.mul oy).2 hXY.2 h1 hts
  have e : V = X * Y := G.ext e1 e2
  subst e
  exact ⟨m, by simp [mulO, w1, m1], m2⟩
theorem plusO_R {u v : C} {X Y : G} {B : Rat} (hu : RC u X) (hv : RC v Y) (hb : Bd (X + Y) B) (h1 : tiny ≤ B) (h2 : B ≤ huge) :
    ∃ m V, plusO u v = some m ∧ RC m V ∧ Bd (V - (X + Y)) (B * e24) := by
  obtain ⟨a, x, a1, a2, a3⟩ := add_s hu.1 hv.1 hb.1 h2
  obtain ⟨b, y, b1, b2, b3⟩ := add_s hu.2 hv.2 hb.2 h2
  exact ⟨(a, b), ⟨x, y⟩, by simp [plusO, show add32 u.1 v.1 = some a from a1, show add32 u.2 v.2 = some b from b1], ⟨a2, b2⟩, near_s a3 hb.1 h1, near_s b3 hb.2 h1⟩
theorem minusO_R {u v : C} {X Y : G} {B : Rat} (hu : RC u X) (hv : RC v Y) (hb : Bd (X - Y) B) (h1 : tiny ≤ B) (h2 : B ≤ huge) :
    ∃ m V, minusO u v = some m ∧ RC m V ∧ Bd (V - (X - Y)) (B * e24) := by
  obtain ⟨a, x, a1, a2, a3⟩ := sub_s hu.1 hv.1 hb.1 h2
  obtain ⟨b, y, b1, b2, b3⟩ := sub_s hu.2 hv.2 hb.2 h2
  exact ⟨(a, b), ⟨x, y⟩, by simp [minusO, show sub32 u.1 v.1 = some a from a1, show sub32 u.2 v.2 = some b from b1], ⟨a2, b2⟩, near_s a3 hb.1 h1, near_s b3 hb.2 h1⟩
theorem plusO_on {u v : C} {X Y : G} {B : Rat} {t : Int} (hu : RC u X) (hv : RC v Y) (hb : Bd (X + Y) B) (o : OnG t (X + Y)) (ht : -149 ≤ t) (h1 : B < (2:Rat)^(24 + t)) (h2 : B ≤ huge) :
    ∃ m, plusO u v = some m ∧ RC m (X + Y) := by
  obtain ⟨a, x, a1, a2, a3⟩ := add_s hu.1 hv.1 hb.1 h2
  obtain ⟨b, y, b1, b2, b3⟩ := add_s hu.2 hv.2 hb.2 h2
  have e1 := near_on_s a3 o.1 hb.1 h1 ht
  have e2 := near_on_s b3 o.2 hb.2 h1 ht
  subst e1 e2
  exact ⟨(a, b), by simp [plusO, show add32 u.1 v.1 = some a from a1, show add32 u.2 v.2 = some b from b1], a2, b2⟩
theorem minusO_on {u v : C} {X Y : G} {B : Rat} {t : Int} (hu : RC u X) (hv : RC v Y) (hb : Bd (X - Y) B) (o : OnG t (X - Y)) (ht : -149 ≤ t) (h1 : B < (2:Rat)^(24 + t)) (h2 : B ≤ huge) :
    ∃ m, minusO u v = some m ∧ RC m (X - Y) := by
  obtain ⟨a, x, a1, a2, a3⟩ := sub_s hu.1 hv.1 hb.1 h2
  obtain ⟨b, y, b1, b2, b3⟩ := sub_s hu.2 hv.2 hb.2 h2
  have e1 := near_on_s a3 o.1 hb.1 h1 ht
  have e2 := near_on_s b3 o.2 hb.2 h1 ht
  subst e1 e2
  exact ⟨(a, b), by simp [minusO, show sub32 u.1 v.1 = some a from a1, show sub32 u.2 v.2 = some b from b1], a2, b2⟩
theorem scaleO_R {u : C} {X : G} {k : Nat} {r B : Rat} (hu : RC u X) (hk : R single k r) (hb : Bd (sc r X) B) (h1 : tiny ≤ B) (h2 : B ≤ huge) :
    ∃ m V, scaleO u k = some m ∧ RC m V ∧ Bd (V - sc r X) (B * e24) := by
  obtain ⟨a, x, a1, a2, a3⟩ := mul_s hu.1 hk hb.1 h2
  obtain ⟨b, y, b1, b2, b3⟩ := mul_s hu.2 hk hb.2 h2
  exact ⟨(a, b), ⟨x, y⟩, by simp [scaleO, show mul32 u.1 k = some a from a1, show mul32 u.2 k = some b from b1], ⟨a2, b2⟩, near_s a3 hb.1 h1, near_s b3 hb.2 h1⟩
theorem scaleO_on {u : C} {X : G} {k : Nat} {r B : Rat} {t : Int} (hu : RC u X) (hk : R single k r) (hb : Bd (sc r X) B) (o : OnG t (sc r X)) (ht : -149 ≤ t) (h1 : B < (2:Rat)^(24 + t)) (h2 : B ≤ huge) :
    ∃ m, scaleO u k = some m ∧ RC m (sc r X) := by
  obtain ⟨a, x, a1, a2, a3⟩ := mul_s hu.1 hk hb.1 h2
  obtain ⟨b, y, b1, b2, b3⟩ := mul_s hu.2 hk hb.2 h2
  have e1 := near_on_s a3 o.1 hb.1 h1 ht
  have e2 := near_on_s b3 o.2 hb.2 h1 ht
  subst e1 e2
  exact ⟨(a, b), by simp [scaleO, show mul32 u.1 k = some a from a1, show mul32 u.2 k = some b from b1], a2, b2⟩
end Go.Proofs.Ytlhdgbiaiacpfaa
