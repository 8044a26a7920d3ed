/- The points of a box. No condition but the sizes. -/
import Derived.Test.YtlhdgbiaiacpfaaM2
import Derived.Test.YtlhdgbiaiacpfaaB5
namespace Go.Proofs.Ytlhdgbiaiacpfaa
open Go.RowKit Num Ieee
open G

/-! The points of a box. No condition but the sizes. -/
theorem side_1 {cw dw fw : Nat} {c d φ f : Rat} (hc : R single cw c) (hd : R single dw d) (hf : R single fw f) (oc : On (-9) c) (bc : Ab c 23) (bd : Ab d 17) (hfφ : Ab (f - φ) (1/5000000)) (hφ : Ab φ 1) :
    ∃ ew zw z, mul32 dw fw = some ew ∧ add32 cw ew = some zw ∧ R single zw z ∧ Ab (z - (c + d * φ)) (1/100000) ∧ (d = 0 → z = c) := by
  have hh : (41:Rat) ≤ huge ∧ tiny ≤ 17 := by decide +kernel
  have hf1 : Ab f (11/10) := by unfold Ab at *; grind
  have hdf := (bd.mul hf1).mono (show (17 * (11/10) : Rat) ≤ 19 by decide +kernel)
  obtain ⟨ew, e, e1, e2, e3⟩ := mul_s hd hf hdf (by grind)
  have e4 := (near_s e3 hdf (by grind)).mono (show 19 * e24 ≤ 1/800000 by decide +kernel)
  have he : Ab e 20 := by unfold Ab at *; grind
  have hce : Ab (c + e) 43 := by unfold Ab at *; grind
  obtain ⟨zw, z, z1, z2, z3⟩ := add_s hc e2 hce (by decide +kernel)
  have z4 := (near_s z3 hce (by decide +kernel)).mono (show 43 * e24 ≤ 1/350000 by decide +kernel)
  refine ⟨ew, zw, z, e1, z1, z2, ?_, ?_⟩
  · have k := bd.mul hfφ
    have e5 : d * (f - φ) = d * f - d * φ := by grind
    rw [e5] at k
    have k2 := k.mono (show (17 * (1/5000000) : Rat) ≤ 1/280000 by decide +kernel)
    clear k e5 hdf e3 z3 e2 z2 hc hd hf
    generalize d * f = A at *
    generalize d * φ = B at *
    unfold Ab at *
    constructor <;> grind
  · intro h0
    subst h0
    have e0 : e = 0 := by
      have h1 : (0:Rat) * f = 0 := by grind
      rw [h1] at e3
      exact near_on_s e3 (On.zero 0) (Ab.zero (show (0:Rat) ≤ 1 by decide)) (by decide +kernel) (by decide)
    subst e0
    have h1 : c + 0 = c := by grind
    rw [h1] at z3
    exact near_on_s z3 oc bc (by decide +kernel) (by decide)
/-- A part of a side. -/
theorem part_R {k m : Nat} (hk : k < m) (hm : m ≤ 64) : ∃ fw f, div32 (floatOfInt .f32 (k : Int)) (floatOfInt .f32 (m : Int)) = some fw ∧ R single fw f ∧ Ab (f - (k:Rat) / (m:Rat)) (1/5000000) ∧ Ab ((k:Rat) / (m:Rat)) 1 := by
  have key : (List.range 65).all (fun k => chk single (floatOfInt .f32 ((k : Nat) : Int)) ((k : Nat) : Rat)) = true := by decide +kernel
  rw [List.all_eq_true] at key
  have k1 := chk_R (key k (by simp; omega))
  have m1 := chk_R (key m (by simp; omega))
  have hm0 : (0:Rat) < (m:Rat) := by exact_mod_cast (by omega : 0 < m)
  have hk0 : (0:Rat) ≤ (k:Rat) := by exact_mod_cast Nat.zero_le _
  have hkm : (k:Rat) ≤ (m:Rat) := by exact_mod_cast (by omega : k ≤ m)
  have hq : (k:Rat) / (m:Rat) * (m:Rat) = (k:Rat) := div_mul_self (by grind)
  have q0 : 0 ≤ (k:Rat) / (m:Rat) := le_of_mul hm0 (by grind)
  have q1 : (k:Rat) / (m:Rat) ≤ 1 := le_of_mul hm0 (by grind)
  have hb : Ab ((k:Rat) / (m:Rat)) 1 := by unfold Ab; grind
  obtain ⟨w, v, D, w1, w2, w3, w4⟩ := div_s k1 m1 (by grind) hq hb (by decide +kernel)
  have hD : Ab D 2 := by
    have : e25 ≤ 1 := by decide +kernel
    unfold Ab at *; grind
  have w5 := near_s w3 hD (by decide +kernel)
  have c1 : 2 * e24 + 1 * e25 ≤ 1/5000000 := by decide +kernel
  exact ⟨w, v, w1, w2, by unfold Ab at *; grind, hb⟩
/-- The corners, as numbers. -/
def corG (L H : G) : Nat → G
  | 0 => L
  | 1 => ⟨H.x, L.y⟩
  | 2 => H
  | 3 => ⟨L.x, H.y⟩
  | _ => L
theorem corG_R {low high : C} {L H : G} (hl : RC low L) (hh : RC high H) : ∀ s, RC (cor low high s) (corG L H s)
  | 0 => hl
  | 1 => ⟨hh.1, hl.2⟩
  | 2 => hh
  | 3 => ⟨hl.1, hh.2⟩
  | _ + 4 => hl
theorem corG_on {L H : G} (hl : OnG (-9) L) (hh : OnG (-9) H) : ∀ s, OnG (-9) (corG L H s)
  | 0 => hl
  | 1 => ⟨hh.1, hl.2⟩
  | 2 => hh
  | 3 => ⟨hl.1, hh.2⟩
  | _ + 4 => hl
theorem corG_bd {L H : G} {b : Rat} (hl : Bd L b) (hh : Bd H b) : ∀ s, Bd (corG L H s) b
  | 0 => hl
  | 1 => ⟨hh.1, hl.2⟩
  | 2 => hh
  | 3 => ⟨hl.1, hh.2⟩
  | _ + 4 => hl
/-- A box: its corners as words and as numbers. -/
structure BoxR (low high : C) (L H : G) : Prop where
  l : RC low L
  h : RC high H
  ol : OnG (-9) L
  oh : OnG (-9) H
  bl : Bd L 23
  bh : Bd H 23
  x : L.x < H.x
  y : L.y < H.y
  w : Bd (H - L) 17
  fst : (match minusO (cor low high 1) (cor low high 0) with
    | some d => match scaleO d 0 with
      | some e => plusO low e == some low
      | none => false
    | none => false) = true
theorem BoxR.isBox {low high : C} {L H : G} (h : BoxR low high L H) : ∃ d, IsBox low high d := by
  obtain ⟨d, d1, d2⟩ := minusO_on h.h h.l h.w (h.oh.sub h.ol) (by decide) (show (17:Rat) < (2:Rat)^(24 + (-9):Int) by decide +kernel) (by decide +kernel)
  refine ⟨d, h.l.fin, h.h.fin, d1, d2.fin, ?_, ?_⟩
  · have hx := h.x
    exact (order_R d2.1 R_00).2.2 (by simp only [sub_x]; grind)
  · have hy := h.y
    exact (order_R d2.2 R_00).2.2 (by simp only [sub_y]; grind)
structure PtsR (low high : C) (L H : G) (m : Nat) (d z : Nat → C) (Z : Nat → G) : Prop where
  pts : Pts low high m d z
  rc : ∀ i, i < 4 * m → RC (z i) (Z i)
  near : ∀ s k : Nat, s < 4 → k < m → Bd (Z (s * m + k) - (corG L H s + sc ((k:Rat) / (m:Rat)) (corG L H (s + 1) - corG L H s))) (1/100000)
  sx : ∀ s k : Nat, s < 4 → k < m → (corG L H (s + 1)).x = (corG L H s).x → (Z (s * m + k)).x = (corG L H s).x
  sy : ∀ s k : Nat, s < 4 → k < m → (corG L H (s + 1)).y = (corG L H s).y → (Z (s * m + k)).y = (corG L H s).y
theorem corG_w {low high : C} {L H : G} (h : BoxR low high L H) : ∀ s, s < 4 → Bd (corG L H (s + 1) - corG L H s) 17 := by
  intro s hs
  have hw := h.w
  obtain rfl | rfl | rfl | rfl : s = 0 ∨ s = 1 ∨ s = 2 ∨ s = 3 := by omega
  all_goals
    unfold Bd Ab at *
    simp only [corG, sub_x, sub_y] at *
    refine ⟨⟨?_, ?_⟩, ⟨?_, ?_⟩⟩ <;> grind
theorem BoxR.pts {low high : C} {L H : G} (h : BoxR low high L H) {m : Nat} (hm : 4 ≤ m) (hm2 : m ≤ 64) : ∃ d z Z, PtsR low high L H m d z Z := by
  have hd : ∀ s, ∃ d : C, s < 4 → minusO (cor low high (s + 1)) (cor low high s) = some d ∧ RC d (corG L H (s + 1) - corG L H s) := by
    intro s
    by_cases hs : s < 4
    · obtain ⟨d, d1, d2⟩ := minusO_on (corG_R h.l h.h (s + 1)) (corG_R h.l h.h s) (corG_w h s hs) ((corG_on h.ol h.oh (s + 1)).sub (corG_on h.ol h.oh s)) (by decide) (show (17:Rat) < (2:Rat)^(24 + (-9):Int) by decide +kernel) (by decide +kernel)
      exact ⟨d, fun _ => ⟨d1, d2⟩⟩
    · exact ⟨(0, 0), fun k => absurd k hs⟩
  obtain ⟨d, hd⟩ : ∃ d : Nat → C, ∀ s, s < 4 → minusO (cor low high (s + 1)) (cor low high s) = some (d s) ∧ RC (d s) (corG L H (s + 1) - corG L H s) := ⟨fun s => (hd s).choose, fun s => (hd s).choose_spec⟩
  have hp : ∀ i, ∃ (z : C) (Z : G), i < 4 * m → (∃ f e, div32 (floatOfInt .f32 ((i % m : Nat) : Int)) (floatOfInt .f32 (m : Int)) = some f ∧ scaleO (d (i / m)) f = some e ∧ plusO (cor low high (i / m)) e = some z) ∧ RC z Z ∧ Bd (Z - (corG L H (i / m) + sc (((i % m : Nat):Rat) / (m:Rat)) (corG L H (i / m + 1) - corG L H (i / m)))) (1/100000) ∧ ((corG L H (i / m + 1)).x = (corG L H (i / m)).x → Z.x = (corG L H (i / m)).x) ∧ ((corG L H (i / m + 1)).y = (corG L H (i / m)).y → Z.y = (corG L H (i / m)).y) := by
    intro i
    by_cases hi : i < 4 * m
    · have hs : i / m < 4 := Nat.div_lt_of_lt_mul (by rw [Nat.mul_comm]; exact hi)
      have hk : i % m < m := Nat.mod_lt _ (by omega)
      obtain ⟨fw, f, f1, f2, f3, f4⟩ := part_R hk hm2
      obtain ⟨d1, d2⟩ := hd _ hs
      have c := corG_R h.l h.h (i / m)
      have co := corG_on h.ol h.oh (i / m)
      have cb := corG_bd h.bl h.bh (i / m)
      have cw := corG_w h _ hs
      obtain ⟨ex, zx, x, a1, a2, a3, a4, a5⟩ := side_1 c.1 d2.1 f2 co.1 cb.1 cw.1 f3 f4
      obtain ⟨ey, zy, y, b1, b2, b3, b4, b5⟩ := side_1 c.2 d2.2 f2 co.2 cb.2 cw.2 f3 f4
      refine ⟨(zx, zy), ⟨x, y⟩, fun _ => ⟨⟨fw, (ex, ey), f1, by simp [scaleO, a1, b1], by simp [plusO, a2, b2]⟩, ⟨a3, b3⟩, ⟨a4, b4⟩, fun e => a5 ?_, fun e => b5 ?_⟩⟩
      · simp only [sub_x]; grind
      · simp only [sub_y]; grind
    · exact ⟨(0, 0), z0, fun k => absurd k hi⟩
  obtain ⟨z, hz⟩ : ∃ z : Nat → C, ∀ i, ∃ (Z : G), i < 4 * m → (∃ f e, div32 (floatOfInt .f32 ((i % m : Nat) : Int)) (floatOfInt .f32 (m : Int)) = some f ∧ scaleO (d (i / m)) f = some e ∧ plusO (cor low high (i / m)) e = some (z i)) ∧ RC (z i) Z ∧ Bd (Z - (corG L H (i / m) + sc (((i % m : Nat):Rat) / (m:Rat)) (corG L H (i / m + 1) - corG L H (i / m)))) (1/100000) ∧ ((corG L H (i / m + 1)).x = (corG L H (i / m)).x → Z.x = (corG L H (i / m)).x) ∧ ((corG L H (i / m + 1)).y = (corG L H (i / m)).y → Z.y = (corG L H (i / m)).y) :=
    ⟨fun i => (hp i).choose, fun i => (hp i).choose_spec⟩
  obtain ⟨Z, hZ⟩ : ∃ Z : Nat → G, ∀ i, i < 4 * m → (∃ f e, div32 (floatOfInt .f32 ((i % m : Nat) : Int)) (floatOfInt .f32 (m : Int)) = some f ∧ scaleO (d (i / m)) f = some e ∧ plusO (cor low high (i / m)) e = some (z i)) ∧ RC (z i) (Z i) ∧ Bd (Z i - (corG L H (i / m) + sc (((i % m : Nat):Rat) / (m:Rat)) (corG L H (i / m + 1) - corG L H (i / m)))) (1/100000) ∧ ((corG L H (i / m + 1)).x = (corG L H (i / m)).x → (Z i).x = (corG L H (i / m)).x) ∧ ((corG L H (i / m + 1)).y = (corG L H (i / m)).y → (Z i).y = (corG L H (i / m)).y) :=
    ⟨fun i => (hz i).choose, fun i => (hz i).choose_spec⟩
  clear hp hz
  have hsk : ∀ s k : Nat, s < 4 → k < m → (s * m + k) < 4 * m ∧ (s * m + k) / m = s ∧ (s * m + k) % m = k := by
    intro s k hs hk
    have h1 : s * m ≤ 3 * m := Nat.mul_le_mul_right m (by omega)
    refine ⟨by omega, ?_, ?_⟩
    · rw [Nat.add_comm, Nat.add_mul_div_right _ _ (by omega), Nat.div_eq_of_lt hk, Nat.zero_add]
    · rw [Nat.add_comm, Nat.add_mul_mod_self_right, Nat.mod_eq_of_lt hk]
  refine ⟨d, z, Z, ⟨⟨fun s hs => (hd s hs).1, fun s k hs hk => ?_, ?_⟩, fun i hi => (hZ i hi).2.1, fun s k hs hk => ?_, fun s k hs hk => ?_, fun s k hs hk => ?_⟩⟩
  · obtain ⟨e1, e2, e3⟩ := hsk s k hs hk
    have := (hZ _ e1).1
    rwa [e2, e3] at this
  · obtain ⟨f, e, g1, g2, g3⟩ := (hZ 0 (by omega)).1
    rw [Nat.zero_mod, Nat.zero_div] at *
    obtain ⟨d1, _⟩ := hd 0 (by omega)
    have hf := h.fst
    have hf0 : f = 0 := by
      have key : (List.range 65).all (fun m => m < 4 || (div32 (floatOfInt .f32 ((0 : Nat) : Int)) (floatOfInt .f32 ((m : Nat) : Int)) == some 0)) = true := by decide +kernel
      rw [List.all_eq_true] at key
      have := key m (by simp; omega)
      simp only [Bool.or_eq_true, decide_eq_true_eq, beq_iff_eq] at this
      rcases this with h | h
      · omega
      · rw [g1] at h; injection h
    subst hf0
    rw [d1] at hf
    simp only [g2] at hf
    have h3 : plusO low e = some (z 0) := g3
    rw [h3] at hf
    simpa using hf
  · obtain ⟨e1, e2, e3⟩ := hsk s k hs hk
    have := (hZ _ e1).2.2.1
    rwa [e2, e3] at this
  · obtain ⟨e1, e2, e3⟩ := hsk s k hs hk
    have := (hZ _ e1).2.2.2.1
    rwa [e2] at this
  · obtain ⟨e1, e2, e3⟩ := hsk s k hs hk
    have := (hZ _ e1).2.2.2.2
    rwa [e2] at this

/-! Values on a box: none is 0. No condition but the sizes. -/
theorem tri_low {A B : G} {a b : Rat} (hA : Le A a one_) (hb : 0 ≤ b) (h : (a + b) * (a + b) < N (A + B)) : b * b ≤ N B := by
  by_cases k : b * b ≤ N B
  · exact k
  · exfalso
    have := of_le_one (hA.add (le_one hb (show N B ≤ b * b by grind)))
    grind
theorem lt_sq {a b : Rat} (ha : 0 ≤ a) (h : a < b) : a * a < b * b := by
  have h1 := Rat.mul_le_mul_of_nonneg_left (Rat.le_of_lt h) ha
  have h2 := Rat.mul_lt_mul_of_pos_right h (show 0 < b by grind)
  grind
/-- A product of lower bounds. -/
def gp (g : Nat → Rat) : Nat → Rat
  | 0 => 1
  | n + 1 => g n * gp g n
theorem gp_nn {g : Nat → Rat} : ∀ n, (∀ j, j < n → 0 ≤ g j) → 0 ≤ gp g n := by
  intro n
  induction n with
  | zero => intro _; show (0:Rat) ≤ 1; decide +kernel
  | succ n ih => intro h; exact Rat.mul_nonneg (h n (by omega)) (ih (fun j hj => h j (by omega)))
theorem P0_low {r : Nat → G} {Z : G} {g : Nat → Rat} : ∀ n, (∀ j, j < n → 0 ≤ g j ∧ g j * g j ≤ N (Z - r j)) → gp g n * gp g n ≤ N (P0 r n Z) := by
  intro n
  induction n with
  | zero => intro _; rw [P0_zero, N_one]; show (1:Rat) * 1 ≤ 1; decide +kernel
  | succ n ih =>
    intro h
    rw [P0_succ, N_mul]
    have h1 := ih (fun j hj => h j (by omega))
    obtain ⟨h2, h3⟩ := h n (by omega)
    show g n * gp g n * (g n * gp g n) ≤ _
    have e : g n * gp g n * (g n * gp g n) = (g n * g n) * (gp g n * gp g n) := by grind
    rw [e]
    exact mul_mono (sq_nn _) (sq_nn _) h3 h1
theorem off_x {Z X : G} {g : Rat} (hg : 0 ≤ g) (h : g ≤ Z.x - X.x ∨ g ≤ X.x - Z.x) : g * g ≤ N (Z - X) := by
  have h1 := N_x (Z - X)
  rw [sub_x] at h1
  rcases h with h | h
  · have := mul_mono hg hg h h; grind
  · have := mul_mono hg hg h h; grind
theorem off_y {Z X : G} {g : Rat} (hg : 0 ≤ g) (h : g ≤ Z.y - X.y ∨ g ≤ X.y - Z.y) : g * g ≤ N (Z - X) := by
  have h1 := N_y (Z - X)
  rw [sub_y] at h1
  rcases h with h | h
  · have := mul_mono hg hg h h; grind
  · have := mul_mono hg hg h h; grind
/-- The value at a point where the polynomial is not too small. -/
theorem val_R {r : Nat → G} {n : Nat} {ys : List C} {z : C} {Z : G} {ζ e LB H : Rat} (hn : n ≤ 4) (hrt : ∀ i, i < n → Rt i (r i)) (hl : ys.length = n + 1) (h : Rl ys (cf r n)) (hz : RC z Z) (hZ : Le Z ζ one_) (hζ : 1 ≤ ζ)
    (hbig : ∀ j, j ≤ n → (hb (bt n) n ζ j + er (bt n) n ζ j) * ζ + bt n (n - 1 - j) ≤ 1000000000000) (hbn : 1 ≤ bt n n) (he : er (bt n) n ζ n ≤ e) (hH : hb (bt n) n ζ n + er (bt n) n ζ n ≤ H) (hH2 : H ≤ 3000000) (h0 : 0 ≤ LB) (hLB : LB * LB ≤ N (P0 r n Z)) (heL : e + 1/1000 < LB) :
    ∃ v W, hornerO ys z = some v ∧ RC v W ∧ Le (W - P0 r n Z) e one_ ∧ 1/1000000 ≤ N W ∧ N W ≤ 10000000000000 ∧ isZ v = false := by
  obtain ⟨v, W, h1, h2, h3⟩ := horner_R (b := bt n) hl h hz hZ hζ (cf_le n hn hrt) hbn hbig n (Nat.le_refl _)
  have h3' : Le (W - P0 r n Z) e one_ := Le.mono h3 he
  have hup : N W ≤ 10000000000000 := by
    have := (Hz_le n (cf_le n hn hrt) hZ n).add h3
    rw [show Hz (cf r n) n Z n + (W - Hz (cf r n) n Z n) = W by ext <;> simp <;> grind] at this
    have h4 := of_le_one (this.mono hH)
    have h5 : 0 ≤ H := by have := this.1; grind
    have := mul_mono h5 h5 hH2 hH2
    grind
  have hlo : 1/1000000 ≤ N W := by
    have hneg : Le (P0 r n Z - W) e one_ := by
      have := h3'.neg
      rwa [show -(W - P0 r n Z) = P0 r n Z - W by ext <;> simp <;> grind] at this
    have := tri_low (A := P0 r n Z - W) (B := W) (b := 1/1000) hneg (by decide +kernel) (by
      rw [show P0 r n Z - W + W = P0 r n Z by ext <;> simp <;> grind]
      have := lt_sq (show 0 ≤ e + 1/1000 by have := hneg.1; grind) heL
      grind)
    grind
  refine ⟨v, W, by unfold hornerO; rw [show ys.length - 1 = n by omega]; exact h1, h2, h3', hlo, hup, ?_⟩
  refine isZ_false h2 ?_
  by_cases hx : W.x = 0
  · right
    intro hy
    have : N W = 0 := by unfold N; rw [hx, hy]; decide +kernel
    grind
  · left; exact hx
/-- By how much a value is off, at most: n roots. -/
def en : Nat → Rat
  | 0 => 1/100000
  | 1 => 1/100000
  | 2 => 2/10000
  | 3 => 4/1000
  | _ => 6/100
theorem near_c : ∀ n : Nat, n < 5 → 1 ≤ n → (∀ j : Nat, j < 5 → j ≤ n → (hb (bt n) n (29/10) j + er (bt n) n (29/10) j) * (29/10) + bt n (n - 1 - j) ≤ 1000000000000) ∧ 1 ≤ bt n n ∧ er (bt n) n (29/10) n ≤ 7/10000 ∧ er (bt n) n (29/10) n ≤ en n ∧ hb (bt n) n (29/10) n + er (bt n) n (29/10) n ≤ 3000000 := by decide +kernel
theorem far_c : ∀ n : Nat, n < 5 → 1 ≤ n → (∀ j : Nat, j < 5 → j ≤ n → (hb (bt n) n (23/2) j + er (bt n) n (23/2) j) * (23/2) + bt n (n - 1 - j) ≤ 1000000000000) ∧ 1 ≤ bt n n ∧ er (bt n) n (23/2) n ≤ en n ∧ hb (bt n) n (23/2) n + er (bt n) n (23/2) n ≤ 3000000 := by decide +kernel
theorem far_root {i : Nat} {Z X : G} (hi : i < 4) (h : Rt i X) (hZ : 29/10 * (29/10) < N Z) : 6/10 * (6/10) ≤ N (Z - X) := by
  refine tri_low (A := X) (rt_23 h hi) (by decide +kernel) ?_
  rw [show X + (Z - X) = Z by ext <;> simp <;> grind]
  have e : (23/10 + 6/10 : Rat) = 29/10 := by decide +kernel
  rw [e]
  exact hZ
/-- A point where the polynomial's value is not too small. -/
def Clear (r : Nat → G) (n : Nat) (Z : G) : Prop := Le Z (23/2) one_ ∧ (Le Z (29/10) one_ → 24/10000 * (24/10000) ≤ N (P0 r n Z))
theorem clear_R {r : Nat → G} {n : Nat} {ys : List C} {z : C} {Z : G} (hn : n ≤ 4) (hn1 : 1 ≤ n) (hrt : ∀ i, i < n → Rt i (r i)) (hl : ys.length = n + 1) (h : Rl ys (cf r n)) (hz : RC z Z) (hc : Clear r n Z) :
    ∃ v W, hornerO ys z = some v ∧ RC v W ∧ Le (W - P0 r n Z) (en n) one_ ∧ 1/1000000 ≤ N W ∧ N W ≤ 10000000000000 ∧ isZ v = false := by
  by_cases hN : N Z ≤ 29/10 * (29/10)
  · have hZ := le_one (show (0:Rat) ≤ 29/10 by decide +kernel) hN
    obtain ⟨c1, c2, c3, c5, c4⟩ := near_c n (by omega) hn1
    obtain ⟨v, W, v1, v2, v3, v4⟩ := val_R (e := er (bt n) n (29/10) n) hn hrt hl h hz hZ (by decide +kernel) (fun j hj => c1 j (by omega) hj) c2 (by grind) c4 (by decide +kernel) (by decide +kernel) (hc.2 hZ) (by grind)
    exact ⟨v, W, v1, v2, v3.mono c5, v4⟩
  · obtain ⟨c1, c2, c3, c4⟩ := far_c n (by omega) hn1
    have hlow := P0_low (r := r) (Z := Z) (g := fun _ => 6/10) n (fun j hj => ⟨by decide +kernel, far_root (by omega) (hrt j hj) (by grind)⟩)
    have hg : ∀ n : Nat, n < 5 → 0 ≤ gp (fun _ => 6/10) n ∧ en n + 1/1000 < gp (fun _ => 6/10) n := by decide +kernel
    obtain ⟨g1, g2⟩ := hg n (by omega)
    exact val_R hn hrt hl h hz hc.1 (by decide +kernel) (fun j hj => c1 j (by omega) hj) c2 c3 c4 (by decide +kernel) g1 hlow g2

/-! All of a box: its points, values, angles and their sum. No condition but the sizes. -/
/-- A point on a side of a box, nearly within it. -/
structure Side (L H Z : G) : Prop where
  on : Z.y = L.y ∨ Z.x = H.x ∨ Z.y = H.y ∨ Z.x = L.x
  x0 : L.x - 1/100000 ≤ Z.x
  x1 : Z.x ≤ H.x + 1/100000
  y0 : L.y - 1/100000 ≤ Z.y
  y1 : Z.y ≤ H.y + 1/100000
theorem between {c d t lo hi : Rat} (h0 : 0 ≤ t) (h1 : t ≤ 1) (c0 : lo ≤ c) (c1 : c ≤ hi) (d0 : lo ≤ d) (d1 : d ≤ hi) : lo ≤ c + (d - c) * t ∧ c + (d - c) * t ≤ hi := by
  have e : c + (d - c) * t = (1 - t) * c + t * d := by grind
  rw [e]
  have a1 := Rat.mul_le_mul_of_nonneg_left c0 (show 0 ≤ 1 - t by grind)
  have a2 := Rat.mul_le_mul_of_nonneg_left c1 (show 0 ≤ 1 - t by grind)
  have a3 := Rat.mul_le_mul_of_nonneg_left d0 h0
  have a4 := Rat.mul_le_mul_of_nonneg_left d1 h0
  constructor <;> grind
theorem corG_in {L H : G} (hx : L.x < H.x) (hy : L.y < H.y) : ∀ s, L.x ≤ (corG L H s).x ∧ (corG L H s).x ≤ H.x ∧ L.y ≤ (corG L H s).y ∧ (corG L H s).y ≤ H.y
  | 0 => by simp only [corG]; grind
  | 1 => by simp only [corG]; grind
  | 2 => by simp only [corG]; grind
  | 3 => by simp only [corG]; grind
  | _ + 4 => by simp only [corG]; grind
theorem split_i {m i : Nat} (hm : 4 ≤ m) (hi : i < 4 * m) : ∃ s k : Nat, s < 4 ∧ k < m ∧ i = s * m + k := by
  refine ⟨i / m, i % m, Nat.div_lt_of_lt_mul (by rw [Nat.mul_comm]; exact hi), Nat.mod_lt _ (by omega), ?_⟩
  have := Nat.div_add_mod i m
  rw [Nat.mul_comm] at this
  exact this.symm
theorem PtsR.side {low high : C} {L H : G} (h : BoxR low high L H) {m : Nat} {d z : Nat → C} {Z : Nat → G} (hm : 4 ≤ m) (p : PtsR low high L H m d z Z) {i : Nat} (hi : i < 4 * m) : Side L H (Z i) := by
  obtain ⟨s, k, hs, hk, rfl⟩ := split_i hm hi
  have hm0 : (0:Rat) < (m:Rat) := by exact_mod_cast (by omega : 0 < m)
  have hk0 : (0:Rat) ≤ (k:Rat) := by exact_mod_cast Nat.zero_le _
  have hkm : (k:Rat) ≤ (m:Rat) := by exact_mod_cast (by omega : k ≤ m)
  have hq : (k:Rat) / (m:Rat) * (m:Rat) = (k:Rat) := div_mul_self (by grind)
  have q0 : 0 ≤ (k:Rat) / (m:Rat) := le_of_mul hm0 (by grind)
  have q1 : (k:Rat) / (m:Rat) ≤ 1 := le_of_mul hm0 (by grind)
  obtain ⟨a1, a2, a3, a4⟩ := corG_in h.x h.y s
  obtain ⟨b1, b2, b3, b4⟩ := corG_in h.x h.y (s + 1)
  have kx := between q0 q1 a1 a2 b1 b2
  have ky := between q0 q1 a3 a4 b3 b4
  obtain ⟨nx, ny⟩ := p.near s k hs hk
  simp only [sub_x, sub_y, add_x, add_y, sc] at nx ny
  refine ⟨?_, ?_, ?_, ?_, ?_⟩
  · have sx := p.sx s k hs hk
    have sy := p.sy s k hs hk
    obtain rfl | rfl | rfl | rfl : s = 0 ∨ s = 1 ∨ s = 2 ∨ s = 3 := by omega
    · exact .inl (sy rfl)
    · exact .inr (.inl (sx rfl))
    · exact .inr (.inr (.inl (sy rfl)))
    · exact .inr (.inr (.inr (sx rfl)))
  all_goals
    clear hq q0 q1 hk0 hkm hm0
    unfold Ab at *
    grind
/-- What is known of a box's turns. -/
structure BoxAll (r : Nat → G) (n : Nat) (ys : List C) (low high : C) (L H : G) (m s : Nat) (σ E : Rat) (Z W V : Nat → G) (α : Nat → Rat) : Prop where
  ok : BoxOk ys low high m s
  rs : R single s σ
  zn : ∀ s k : Nat, s < 4 → k < m → Bd (Z (s * m + k) - (corG L H s + sc ((k:Rat) / (m:Rat)) (corG L H (s + 1) - corG L H s))) (1/100000)
  zs : ∀ i, i < 4 * m → Side L H (Z i)
  wn : ∀ i, i < 4 * m → Le (W i - P0 r n (Z i)) E one_
  sum : Ab (σ - sumR α (4 * m)) (ri (4 * m) * (1/100000))
  al : ∀ i, i < 4 * m → Ab (α i) (51/100)
  q : ∀ i, i < 4 * m → Le (V i * W i - W (nx (4 * m) i)) (1/1000000) (W (nx (4 * m) i))
  ang : ∀ i, i < 4 * m → ∀ t, 0 < (V i).x → (V i).y = t * (V i).x → Ab t (249/1000) → Ab (α i * tau - T t) (41/1000000)
theorem box_all {r : Nat → G} {n : Nat} {ys : List C} {low high : C} {L H : G} {m : Nat} {E : Rat} (h : BoxR low high L H) (hm : 4 ≤ m) (hm2 : m ≤ 64)
    (hval : ∀ z Z, RC z Z → Side L H Z → ∃ v W, hornerO ys z = some v ∧ RC v W ∧ Le (W - P0 r n Z) E one_ ∧ 1/1000000 ≤ N W ∧ N W ≤ 10000000000000 ∧ isZ v = false) :
    ∃ s σ Z W V α, BoxAll r n ys low high L H m s σ E Z W V α := by
  obtain ⟨d0, hd0⟩ := h.isBox
  obtain ⟨d, z, Z, p⟩ := h.pts hm hm2
  have key : ∀ i, ∃ (v : C) (W : G), i < 4 * m → hornerO ys (z i) = some v ∧ RC v W ∧ Le (W - P0 r n (Z i)) E one_ ∧ 1/1000000 ≤ N W ∧ N W ≤ 10000000000000 ∧ isZ v = false := by
    intro i
    by_cases hi : i < 4 * m
    · obtain ⟨v, W, k⟩ := hval (z i) (Z i) (p.rc i hi) (p.side h hm hi)
      exact ⟨v, W, fun _ => k⟩
    · exact ⟨(0, 0), z0, fun k => absurd k hi⟩
  obtain ⟨v, hv⟩ : ∃ v : Nat → C, ∀ i, ∃ (W : G), i < 4 * m → hornerO ys (z i) = some (v i) ∧ RC (v i) W ∧ Le (W - P0 r n (Z i)) E one_ ∧ 1/1000000 ≤ N W ∧ N W ≤ 10000000000000 ∧ isZ (v i) = false := ⟨fun i => (key i).choose, fun i => (key i).choose_spec⟩
  obtain ⟨W, hW⟩ : ∃ W : Nat → G, ∀ i, i < 4 * m → hornerO ys (z i) = some (v i) ∧ RC (v i) (W i) ∧ Le (W i - P0 r n (Z i)) E one_ ∧ 1/1000000 ≤ N (W i) ∧ N (W i) ≤ 10000000000000 ∧ isZ (v i) = false := ⟨fun i => (hv i).choose, fun i => (hv i).choose_spec⟩
  clear key hv
  obtain ⟨t, V, α, σ, ht⟩ := trn_R (n := 4 * m) (by omega) (v := v) (W := W) (fun i hi => (hW i hi).2.1) (fun i hi => (hW i hi).2.2.2.1) (fun i hi => (hW i hi).2.2.2.2.1)
  exact ⟨t (4 * m), σ, Z, W, V, α, ⟨⟨d0, d, z, v, t, hd0, p.pts, fun i hi => ⟨(p.rc i hi).fin, (hW i hi).1, (hW i hi).2.1.fin, (hW i hi).2.2.2.2.2⟩, ht.trn, rfl⟩, ht.r, p.near, fun i hi => p.side h hm hi, fun i hi => (hW i hi).2.2.1, ht.sum, ht.al, ht.q, ht.ang⟩⟩
theorem sumR_ab {a : Nat → Rat} {e : Rat} : ∀ n, (∀ i, i < n → Ab (a i) e) → Ab (sumR a n) (ri n * e) := by
  intro n
  induction n with
  | zero => intro _; show Ab 0 (ri 0 * e); unfold ri; exact ⟨by grind, by grind⟩
  | succ n ih =>
    intro h
    have := (ih (fun i hi => h i (by omega))).add (h n (by omega))
    rw [ri_succ]
    exact this.mono (by grind)
/-- A box of 60 steps has a count, whatever it is. -/
theorem BoxAll.count {r : Nat → G} {n : Nat} {ys : List C} {low high : C} {L H : G} {m s : Nat} {σ E : Rat} {Z W V : Nat → G} {α : Nat → Rat} (h : BoxAll r n ys low high L H m s σ E Z W V α) (hm : m ≤ 64) : ∃ (f : Nat) (k : Int), Flo s f k ∧ (k : Rat) ≤ σ + 1/2 + 1/10000 ∧ σ + 1/2 - 1/10000 < (k : Rat) + 1 := by
  refine flo_R h.rs ?_
  have h1 := sumR_ab (4 * m) h.al
  have h2 : ri (4 * m) ≤ 256 := by unfold ri; exact_mod_cast (by omega : 4 * m ≤ 256)
  have h3 := h.sum
  have h4 := ri_nn (4 * m)
  have := h3.add h1
  rw [show σ - sumR α (4 * m) + sumR α (4 * m) = σ by grind] at this
  exact this.mono (by grind)

/-! The boxes of the law: the great box and its quarters, three times over. No condition but the sizes. -/
/-- The lines of the boxes, as words and as numbers. -/
def xw : Nat → Nat
  | 0 => 3238035456
  | 1 => 3233849344
  | 2 => 3229630464
  | 3 => 3221192704
  | 4 => 1015021568
  | 5 => 1073856512
  | 6 => 1082212352
  | 7 => 1086431232
  | _ => 1090584576
def yw : Nat → Nat
  | 0 => 3238019072
  | 1 => 3233812480
  | 2 => 3229564928
  | 3 => 3221012480
  | 4 => 1025507328
  | 5 => 1073963008
  | 6 => 1082269696
  | 7 => 1086492672
  | _ => 1090617344
def xl (j : Nat) : Rat := (j : Rat) * (515/256) - 257/32
def yl (j : Nat) : Rat := (j : Rat) * (1031/512) - 513/64
def fw (a b : Nat) : C := (xw a, yw b)
def fg (a b : Nat) : G := ⟨xl a, yl b⟩
theorem fam_R {a b : Nat} (ha : a < 9) (hb : b < 9) : RC (fw a b) (fg a b) := by
  have k1 : (List.range 9).all (fun j => chk single (xw j) (xl j)) = true := by decide +kernel
  have k2 : (List.range 9).all (fun j => chk single (yw j) (yl j)) = true := by decide +kernel
  rw [List.all_eq_true] at k1 k2
  exact ⟨chk_R (k1 a (by simpa using ha)), chk_R (k2 b (by simpa using hb))⟩
theorem pm9 : (2:Rat)^(-9:Int) = 1/512 := by decide +kernel
theorem fam_on (a b : Nat) : OnG (-9) (fg a b) := by
  refine ⟨⟨1030 * a - 4112, ?_⟩, ⟨1031 * b - 4104, ?_⟩⟩
  · rw [pm9]; show xl a = _; unfold xl
    rw [Rat.intCast_sub, Rat.intCast_mul, Rat.intCast_natCast]
    have e1 : ((1030:Int):Rat) = 1030 := rfl
    have e2 : ((4112:Int):Rat) = 4112 := rfl
    rw [e1, e2]; grind
  · rw [pm9]; show yl b = _; unfold yl
    rw [Rat.intCast_sub, Rat.intCast_mul, Rat.intCast_natCast]
    have e1 : ((1031:Int):Rat) = 1031 := rfl
    have e2 : ((4104:Int):Rat) = 4104 := rfl
    rw [e1, e2]; grind
theorem line_b : ∀ j : Nat, j < 9 → (-(8095/1000) ≤ xl j ∧ xl j ≤ 8095/1000) ∧ (-(8095/1000) ≤ yl j ∧ yl j ≤ 8095/1000) := by decide +kernel
theorem line_w' : (List.range 9).all (fun j => (List.range 9).all fun h => h == 0 || decide (9 ≤ j + h) || (decide (xl j < xl (j + h)) && decide (yl j < yl (j + h)) && decide (xl (j + h) - xl j ≤ 17) && decide (yl (j + h) - yl j ≤ 17))) = true := by decide +kernel
theorem line_w {j h : Nat} (hh : 1 ≤ h) (hj : j + h < 9) : xl j < xl (j + h) ∧ yl j < yl (j + h) ∧ xl (j + h) - xl j ≤ 17 ∧ yl (j + h) - yl j ≤ 17 := by
  have key := line_w'
  rw [List.all_eq_true] at key
  have key := key j (by simp; omega)
  rw [List.all_eq_true] at key
  have key := key h (by simp; omega)
  simp only [Bool.or_eq_true, Bool.and_eq_true, beq_iff_eq, decide_eq_true_eq] at key
  rcases key with (h0 | h0) | h0
  · omega
  · omega
  · exact ⟨h0.1.1.1, h0.1.1.2, h0.1.2, h0.2⟩
theorem fam_fst : (List.range 9).all (fun h => (List.range 9).all fun a => (List.range 9).all fun b => h == 0 || decide (9 ≤ a + h) || decide (9 ≤ b + h) || (match minusO (cor (fw a b) (fw (a + h) (b + h)) 1) (cor (fw a b) (fw (a + h) (b + h)) 0) with
    | some d => match scaleO d 0 with
      | some e => plusO (fw a b) e == some (fw a b)
      | none => false
    | none => false)) = true := by decide +kernel
theorem fam_mid : (List.range 5).all (fun h => (List.range 9).all fun a => (List.range 9).all fun b => h == 0 || decide (9 ≤ a + 2 * h) || decide (9 ≤ b + 2 * h) || (midO (fw a b) (fw (a + 2 * h) (b + 2 * h)) == some (fw (a + h) (b + h)))) = true := by decide +kernel
theorem fam_box {a b h : Nat} (h1 : 1 ≤ h) (ha : a + h < 9) (hb : b + h < 9) : BoxR (fw a b) (fw (a + h) (b + h)) (fg a b) (fg (a + h) (b + h)) := by
  have l1 := line_b a (by omega)
  have l2 := line_b b (by omega)
  have l3 := line_b (a + h) (by omega)
  have l4 := line_b (b + h) (by omega)
  have w1 := line_w h1 ha
  have w2 := line_w h1 hb
  refine ⟨fam_R (by omega) (by omega), fam_R ha hb, fam_on a b, fam_on _ _, ⟨?_, ?_⟩, ⟨?_, ?_⟩, w1.1, w2.2.1, ⟨?_, ?_⟩, ?_⟩
  · show Ab (xl a) 23; unfold Ab; grind
  · show Ab (yl b) 23; unfold Ab; grind
  · show Ab (xl (a + h)) 23; unfold Ab; grind
  · show Ab (yl (b + h)) 23; unfold Ab; grind
  · show Ab (xl (a + h) - xl a) 17; unfold Ab; grind
  · show Ab (yl (b + h) - yl b) 17; unfold Ab; grind
  have key := fam_fst
  rw [List.all_eq_true] at key
  have key := key h (by simp; omega)
  rw [List.all_eq_true] at key
  have key := key a (by simp; omega)
  rw [List.all_eq_true] at key
  have key := key b (by simp; omega)
  simp only [Bool.or_eq_true, beq_iff_eq, decide_eq_true_eq] at key
  rcases key with ((h0 | h0) | h0) | h0
  · omega
  · omega
  · omega
  · exact h0
theorem fam_midO {a b h : Nat} (h1 : 1 ≤ h) (ha : a + 2 * h < 9) (hb : b + 2 * h < 9) : midO (fw a b) (fw (a + 2 * h) (b + 2 * h)) = some (fw (a + h) (b + h)) := by
  have key := fam_mid
  rw [List.all_eq_true] at key
  have key := key h (by simp; omega)
  rw [List.all_eq_true] at key
  have key := key a (by simp; omega)
  rw [List.all_eq_true] at key
  have key := key b (by simp; omega)
  simp only [Bool.or_eq_true, beq_iff_eq, decide_eq_true_eq] at key
  rcases key with ((h0 | h0) | h0) | h0
  · omega
  · omega
  · omega
  · exact h0

/-! On the lines no value is too small. -/
theorem rt_b {i : Nat} {X : G} (h : Rt i X) : (i = 0 → -3/2 ≤ X.x ∧ X.x ≤ -1) ∧ (i = 1 → -1/2 ≤ X.x ∧ X.x ≤ 0) ∧ (i = 2 → 1/2 ≤ X.x ∧ X.x ≤ 1) ∧ (i = 3 → 3/2 ≤ X.x ∧ X.x ≤ 2) := by
  have h1 := h.lo
  have h2 := h.hi
  refine ⟨?_, ?_, ?_, ?_⟩
  · rintro rfl; have e : ((0:Nat):Rat) = 0 := rfl; rw [e] at h1 h2; constructor <;> grind
  · rintro rfl; have e : ((1:Nat):Rat) = 1 := rfl; rw [e] at h1 h2; constructor <;> grind
  · rintro rfl; have e : ((2:Nat):Rat) = 2 := rfl; rw [e] at h1 h2; constructor <;> grind
  · rintro rfl; have e : ((3:Nat):Rat) = 3 := rfl; rw [e] at h1 h2; constructor <;> grind
theorem rt_grid {i : Nat} {X : G} (h : Rt i X) : X.y ≤ 0 ∨ 1/8 ≤ X.y := by
  obtain ⟨k, hk⟩ := h.on.2
  rw [pm3] at hk
  by_cases h0 : k ≤ 0
  · left
    have : (k:Rat) ≤ ((0:Int):Rat) := Rat.intCast_le_intCast.2 h0
    have e : ((0:Int):Rat) = 0 := rfl
    rw [hk]; grind
  · right
    have : ((1:Int):Rat) ≤ (k:Rat) := Rat.intCast_le_intCast.2 (by omega)
    have e : ((1:Int):Rat) = 1 := rfl
    rw [hk]; grind
theorem clear_of {r : Nat → G} {n : Nat} {Z : G} (g : Nat → Rat) (hZ : Le Z (23/2) one_) (hg : ∀ j, j < n → 0 ≤ g j ∧ g j * g j ≤ N (Z - r j)) (hc : 24/10000 ≤ gp g n) : Clear r n Z := by
  refine ⟨hZ, fun _ => ?_⟩
  have h1 := P0_low n hg
  have h2 := mul_mono (show (0:Rat) ≤ 24/10000 by decide +kernel) (show (0:Rat) ≤ 24/10000 by decide +kernel) hc hc
  grind
theorem clear_far {r : Nat → G} {n : Nat} {Z : G} (hZ : Le Z (23/2) one_) (h : 3 ≤ Z.x ∨ Z.x ≤ -3 ∨ 3 ≤ Z.y ∨ Z.y ≤ -3) : Clear r n Z := by
  refine ⟨hZ, fun k => ?_⟩
  exfalso
  obtain ⟨h1, h2⟩ := k.bd
  unfold Ab at h1 h2
  rcases h with h | h | h | h <;> grind
def gx3 (i : Nat) : Rat := (i : Rat) + 127/256
def gx4 : Nat → Rat
  | 0 => 65/64
  | 1 => 1/64
  | 2 => 31/64
  | _ => 95/64
def gx5 (i : Nat) : Rat := 775/256 - (i : Rat)
def gy3 (_ : Nat) : Rat := 499/512
def gy4 : Nat → Nat → Rat
  | 0, 0 => 5/128
  | 0, 1 => 1/4
  | 0, 2 => 5/4
  | 0, _ => 9/4
  | 1, 0 => 1/4
  | 1, 1 => 5/128
  | 1, 2 => 1/4
  | 1, _ => 5/4
  | 2, 0 => 5/4
  | 2, 1 => 1/4
  | 2, 2 => 5/128
  | 2, _ => 1/4
  | _, 0 => 9/4
  | _, 1 => 5/4
  | _, 2 => 1/4
  | _, _ => 5/128
theorem gp_ok : ∀ n : Nat, n < 5 → 1 ≤ n → 24/10000 ≤ gp gx3 n ∧ 24/10000 ≤ gp gx4 n ∧ 24/10000 ≤ gp gx5 n ∧ 24/10000 ≤ gp gy3 n ∧ ∀ k : Nat, k < 4 → 24/10000 ≤ gp (gy4 k) n := by decide +kernel
theorem gapL {z x c d g : Rat} (hz : c ≤ z) (hx : x ≤ d) (hg : g ≤ c - d) : g ≤ z - x := by grind
theorem gapR {z x c d g : Rat} (hz : z ≤ c) (hx : d ≤ x) (hg : g ≤ d - c) : g ≤ x - z := by grind
theorem four_cases {j n : Nat} (hj : j < n) (hn : n ≤ 4) : j = 0 ∨ j = 1 ∨ j = 2 ∨ j = 3 := by omega
theorem xl_vals : xl 3 = -511/256 ∧ xl 4 = 1/64 ∧ xl 5 = 519/256 ∧ yl 3 = -1011/512 ∧ yl 4 = 5/128 ∧ yl 5 = 1051/512 := by decide +kernel
theorem far_vals' : (List.range 9).all (fun j => j == 3 || j == 4 || j == 5 || ((decide (3 ≤ xl j) || decide (xl j ≤ -3)) && (decide (3 ≤ yl j) || decide (yl j ≤ -3)))) = true := by decide +kernel
theorem far_vals (j : Nat) (hj : j < 9) (h3 : j ≠ 3) (h4 : j ≠ 4) (h5 : j ≠ 5) : (3 ≤ xl j ∨ xl j ≤ -3) ∧ (3 ≤ yl j ∨ yl j ≤ -3) := by
  have key := far_vals'
  rw [List.all_eq_true] at key
  have key := key j (by simp; omega)
  simp only [Bool.or_eq_true, Bool.and_eq_true, beq_iff_eq, decide_eq_true_eq] at key
  rcases key with ((h0 | h0) | h0) | h0
  · exact absurd h0 h3
  · exact absurd h0 h4
  · exact absurd h0 h5
  · exact h0
theorem clear_x {r : Nat → G} {n : Nat} {Z : G} {j : Nat} (hn : n ≤ 4) (hn1 : 1 ≤ n) (hrt : ∀ i, i < n → Rt i (r i)) (hj : j < 9) (hx : Z.x = xl j) (hZ : Le Z (23/2) one_) : Clear r n Z := by
  obtain ⟨v3, v4, v5, _, _, _⟩ := xl_vals
  obtain ⟨p3, p4, p5, _, _⟩ := gp_ok n (by omega) hn1
  by_cases h3 : j = 3
  · subst h3
    rw [v3] at hx
    refine clear_of gx3 hZ (fun i hi => ?_) p3
    obtain ⟨b0, b1, b2, b3⟩ := rt_b (hrt i hi)
    obtain rfl | rfl | rfl | rfl := four_cases hi hn
    · exact ⟨by decide +kernel, off_x (by decide +kernel) (.inr (gapR (by rw [hx]; exact Rat.le_refl) (b0 rfl).1 (by decide +kernel)))⟩
    · exact ⟨by decide +kernel, off_x (by decide +kernel) (.inr (gapR (by rw [hx]; exact Rat.le_refl) (b1 rfl).1 (by decide +kernel)))⟩
    · exact ⟨by decide +kernel, off_x (by decide +kernel) (.inr (gapR (by rw [hx]; exact Rat.le_refl) (b2 rfl).1 (by decide +kernel)))⟩
    · exact ⟨by decide +kernel, off_x (by decide +kernel) (.inr (gapR (by rw [hx]; exact Rat.le_refl) (b3 rfl).1 (by decide +kernel)))⟩
  · by_cases h4 : j = 4
    · subst h4
      rw [v4] at hx
      refine clear_of gx4 hZ (fun i hi => ?_) p4
      obtain ⟨b0, b1, b2, b3⟩ := rt_b (hrt i hi)
      obtain rfl | rfl | rfl | rfl := four_cases hi hn
      · exact ⟨by decide +kernel, off_x (by decide +kernel) (.inl (gapL (by rw [hx]; exact Rat.le_refl) (b0 rfl).2 (by decide +kernel)))⟩
      · exact ⟨by decide +kernel, off_x (by decide +kernel) (.inl (gapL (by rw [hx]; exact Rat.le_refl) (b1 rfl).2 (by decide +kernel)))⟩
      · exact ⟨by decide +kernel, off_x (by decide +kernel) (.inr (gapR (by rw [hx]; exact Rat.le_refl) (b2 rfl).1 (by decide +kernel)))⟩
      · exact ⟨by decide +kernel, off_x (by decide +kernel) (.inr (gapR (by rw [hx]; exact Rat.le_refl) (b3 rfl).1 (by decide +kernel)))⟩
    · by_cases h5 : j = 5
      · subst h5
        rw [v5] at hx
        refine clear_of gx5 hZ (fun i hi => ?_) p5
        obtain ⟨b0, b1, b2, b3⟩ := rt_b (hrt i hi)
        obtain rfl | rfl | rfl | rfl := four_cases hi hn
        · exact ⟨by decide +kernel, off_x (by decide +kernel) (.inl (gapL (by rw [hx]; exact Rat.le_refl) (b0 rfl).2 (by decide +kernel)))⟩
        · exact ⟨by decide +kernel, off_x (by decide +kernel) (.inl (gapL (by rw [hx]; exact Rat.le_refl) (b1 rfl).2 (by decide +kernel)))⟩
        · exact ⟨by decide +kernel, off_x (by decide +kernel) (.inl (gapL (by rw [hx]; exact Rat.le_refl) (b2 rfl).2 (by decide +kernel)))⟩
        · exact ⟨by decide +kernel, off_x (by decide +kernel) (.inl (gapL (by rw [hx]; exact Rat.le_refl) (b3 rfl).2 (by decide +kernel)))⟩
      · refine clear_far hZ ?_
        have := (far_vals j hj h3 h4 h5).1
        rw [hx]
        rcases this with h | h
        · exact .inl h
        · exact .inr (.inl h)
theorem clear_y {r : Nat → G} {n : Nat} {Z : G} {j : Nat} (hn : n ≤ 4) (hn1 : 1 ≤ n) (hrt : ∀ i, i < n → Rt i (r i)) (hj : j < 9) (hy : Z.y = yl j) (hZ : Le Z (23/2) one_) : Clear r n Z := by
  obtain ⟨_, _, _, v3, v4, v5⟩ := xl_vals
  obtain ⟨_, _, _, p3, p4⟩ := gp_ok n (by omega) hn1
  by_cases h3 : j = 3
  · subst h3
    rw [v3] at hy
    refine clear_of gy3 hZ (fun i hi => ?_) p3
    have hb := (hrt i hi).im
    refine ⟨by show (0:Rat) ≤ 499/512; decide +kernel, off_y (by show (0:Rat) ≤ 499/512; decide +kernel) (.inr (gapR (by rw [hy]; exact Rat.le_refl) hb.1 (by show (499/512:Rat) ≤ _; decide +kernel)))⟩
  · by_cases h4 : j = 4
    · subst h4
      rw [v4] at hy
      have near : ∀ i, i < n → 5/128 * (5/128) ≤ N (Z - r i) := by
        intro i hi
        rcases rt_grid (hrt i hi) with h | h
        · exact off_y (by decide +kernel) (.inl (gapL (by rw [hy]; exact Rat.le_refl) h (by decide +kernel)))
        · exact off_y (by decide +kernel) (.inr (gapR (by rw [hy]; exact Rat.le_refl) h (by decide +kernel)))
      obtain ⟨k, hk, hkx⟩ : ∃ k : Nat, k < 4 ∧ ((k = 0 ∧ Z.x ≤ -3/4) ∨ (k = 1 ∧ -3/4 ≤ Z.x ∧ Z.x ≤ 1/4) ∨ (k = 2 ∧ 1/4 ≤ Z.x ∧ Z.x ≤ 5/4) ∨ (k = 3 ∧ 5/4 ≤ Z.x)) := by
        by_cases a : Z.x ≤ -3/4
        · exact ⟨0, by omega, .inl ⟨rfl, a⟩⟩
        · by_cases b : Z.x ≤ 1/4
          · exact ⟨1, by omega, .inr (.inl ⟨rfl, by grind, b⟩)⟩
          · by_cases c : Z.x ≤ 5/4
            · exact ⟨2, by omega, .inr (.inr (.inl ⟨rfl, by grind, c⟩))⟩
            · exact ⟨3, by omega, .inr (.inr (.inr ⟨rfl, by grind⟩))⟩
      refine clear_of (gy4 k) hZ (fun i hi => ?_) (p4 k hk)
      obtain ⟨b0, b1, b2, b3⟩ := rt_b (hrt i hi)
      have hnr := near i hi
      rcases hkx with ⟨rfl, x0⟩ | ⟨rfl, x0, x1⟩ | ⟨rfl, x0, x1⟩ | ⟨rfl, x0⟩
      · obtain rfl | rfl | rfl | rfl := four_cases hi hn
        · exact ⟨by decide +kernel, hnr⟩
        · exact ⟨by decide +kernel, off_x (by decide +kernel) (.inr (gapR x0 (b1 rfl).1 (by decide +kernel)))⟩
        · exact ⟨by decide +kernel, off_x (by decide +kernel) (.inr (gapR x0 (b2 rfl).1 (by decide +kernel)))⟩
        · exact ⟨by decide +kernel, off_x (by decide +kernel) (.inr (gapR x0 (b3 rfl).1 (by decide +kernel)))⟩
      · obtain rfl | rfl | rfl | rfl := four_cases hi hn
        · exact ⟨by decide +kernel, off_x (by decide +kernel) (.inl (gapL x0 (b0 rfl).2 (by decide +kernel)))⟩
        · exact ⟨by decide +kernel, hnr⟩
        · exact ⟨by decide +kernel, off_x (by decide +kernel) (.inr (gapR x1 (b2 rfl).1 (by decide +kernel)))⟩
        · exact ⟨by decide +kernel, off_x (by decide +kernel) (.inr (gapR x1 (b3 rfl).1 (by decide +kernel)))⟩
      · obtain rfl | rfl | rfl | rfl := four_cases hi hn
        · exact ⟨by decide +kernel, off_x (by decide +kernel) (.inl (gapL x0 (b0 rfl).2 (by decide +kernel)))⟩
        · exact ⟨by decide +kernel, off_x (by decide +kernel) (.inl (gapL x0 (b1 rfl).2 (by decide +kernel)))⟩
        · exact ⟨by decide +kernel, hnr⟩
        · exact ⟨by decide +kernel, off_x (by decide +kernel) (.inr (gapR x1 (b3 rfl).1 (by decide +kernel)))⟩
      · obtain rfl | rfl | rfl | rfl := four_cases hi hn
        · exact ⟨by decide +kernel, off_x (by decide +kernel) (.inl (gapL x0 (b0 rfl).2 (by decide +kernel)))⟩
        · exact ⟨by decide +kernel, off_x (by decide +kernel) (.inl (gapL x0 (b1 rfl).2 (by decide +kernel)))⟩
        · exact ⟨by decide +kernel, off_x (by decide +kernel) (.inl (gapL x0 (b2 rfl).2 (by decide +kernel)))⟩
        · exact ⟨by decide +kernel, hnr⟩
    · by_cases h5 : j = 5
      · subst h5
        rw [v5] at hy
        refine clear_of gy3 hZ (fun i hi => ?_) p3
        have hb := (hrt i hi).im
        refine ⟨by show (0:Rat) ≤ 499/512; decide +kernel, off_y (by show (0:Rat) ≤ 499/512; decide +kernel) (.inl (gapL (by rw [hy]; exact Rat.le_refl) hb.2 (by show (499/512:Rat) ≤ _; decide +kernel)))⟩
      · refine clear_far hZ ?_
        have := (far_vals j hj h3 h4 h5).2
        rw [hy]
        rcases this with h | h
        · exact .inr (.inr (.inl h))
        · exact .inr (.inr (.inr h))
/-- A box of the family: all of it. -/
theorem fam_all {r : Nat → G} {n : Nat} {ys : List C} {a b h m : Nat} (hn : n ≤ 4) (hn1 : 1 ≤ n) (hrt : ∀ i, i < n → Rt i (r i)) (hl : ys.length = n + 1) (hy : Rl ys (cf r n)) (h1 : 1 ≤ h) (ha : a + h < 9) (hb : b + h < 9) (hm : 4 ≤ m) (hm2 : m ≤ 64) :
    ∃ s σ Z W V α, BoxAll r n ys (fw a b) (fw (a + h) (b + h)) (fg a b) (fg (a + h) (b + h)) m s σ (en n) Z W V α := by
  refine box_all (fam_box h1 ha hb) hm hm2 (fun z Z hz hs => ?_)
  have l1 := line_b a (by omega)
  have l2 := line_b b (by omega)
  have l3 := line_b (a + h) (by omega)
  have l4 := line_b (b + h) (by omega)
  have hx0 : xl a - 1/100000 ≤ Z.x := hs.x0
  have hx1 : Z.x ≤ xl (a + h) + 1/100000 := hs.x1
  have hy0 : yl b - 1/100000 ≤ Z.y := hs.y0
  have hy1 : Z.y ≤ yl (b + h) + 1/100000 := hs.y1
  have hB : Bd Z (81/10) := ⟨by unfold Ab; grind, by unfold Ab; grind⟩
  have hZ : Le Z (23/2) one_ := le_one (by decide +kernel) (by have := N_bd hB; grind)
  refine clear_R hn hn1 hrt hl hy hz ?_
  rcases hs.on with e | e | e | e
  · exact clear_y hn hn1 hrt (by omega) e hZ
  · exact clear_x hn hn1 hrt ha e hZ
  · exact clear_y hn hn1 hrt hb e hZ
  · exact clear_x hn hn1 hrt (by omega) e hZ
end Go.Proofs.Ytlhdgbiaiacpfaa
