/- The values near a root, as words. -/
import Derived.Test.YtlhdgbiaiacpfaaN10
namespace Go.Proofs.Ytlhdgbiaiacpfaa
open Go.RowKit Num Ieee
open G
theorem hb_ok1 : ∀ n : Nat, n < 5 → ∀ j : Nat, j < 5 → j ≤ n - 1 → (hb (b1 n) (n - 1) (23/10) j + er (b1 n) (n - 1) (23/10) j) * (23/10) + b1 n (n - 1 - 1 - j) ≤ 1000000000000 := by decide +kernel
theorem hb_ok2 : ∀ n : Nat, n < 5 → ∀ j : Nat, j < 5 → j ≤ n - 2 → (hb (b2 n) (n - 2) (23/10) j + er (b2 n) (n - 2) (23/10) j) * (23/10) + b2 n (n - 2 - 1 - j) ≤ 1000000000000 := by decide +kernel
theorem er_ok : ∀ n : Nat, n < 5 → er (bt n) n (23/10) n * 64 * kd n ≤ kv n ∧ er (b1 n) (n - 1) (23/10) (n - 1) * kd n ≤ 2/1000 ∧ er (b2 n) (n - 2) (23/10) (n - 2) * kd n ≤ 1/1000 := by decide +kernel
theorem b_ok : ∀ n : Nat, n < 5 → 1 ≤ n → 1 ≤ bt n n ∧ 1 ≤ b1 n (n - 1) ∧ (2 ≤ n → 1 ≤ b2 n (n - 2)) := by decide +kernel
theorem ri_nn (k : Nat) : 0 ≤ ri k := by unfold ri; exact_mod_cast Nat.zero_le _
theorem sl_le {f : Nat → G} {b : Nat → Rat} (h : ∀ k, Le (f k) (b k) one_) (k : Nat) : Le (sl f k) (ri (k + 1) * b (k + 1)) one_ := (h (k + 1)).sc (ri_nn _)
theorem bd_sl {f : Nat → G} {B : Rat} {n : Nat} (h : ∀ k, Bd (f k) B) (h0 : ∀ k, n ≤ k + 1 → sl f k = z0) (hn : n ≤ 5) (k : Nat) : Bd (sl f k) (B * 4) := by
  have hB := (h 0).nn
  by_cases hk : n ≤ k + 1
  · rw [h0 k hk]; exact ⟨Ab.zero (by grind), Ab.zero (by grind)⟩
  · have hr4 : ri (k + 1) ≤ 4 := by
      have : ((k + 1 : Nat) : Rat) ≤ ((4 : Nat) : Rat) := by exact_mod_cast (by omega : k + 1 ≤ 4)
      exact this
    have hr : Ab (ri (k + 1)) 4 := by have := ri_nn (k + 1); unfold Ab; grind
    exact ⟨(h (k + 1)).1.mul hr, (h (k + 1)).2.mul hr⟩
theorem sl_on {f : Nat → G} {t : Int} (h : ∀ k, OnG t (f k)) (k : Nat) : OnG t (sl f k) := by
  have hr : On 0 (ri (k + 1)) := by
    have := On.int ((k + 1 : Nat) : Int)
    have e : (((k + 1 : Nat) : Int) : Rat) = ri (k + 1) := by unfold ri; push_cast; rfl
    rwa [e] at this
  have h1 := (h (k + 1)).1.mul hr
  have h2 := (h (k + 1)).2.mul hr
  rw [Int.add_zero] at h1 h2
  exact ⟨h1, h2⟩
theorem u64_R : RC (1015021568, 0) u64 := ⟨chk_R (by decide +kernel), R_00⟩
theorem u64_le : Le u64 (1/64) one_ := le_one (by decide +kernel) (by decide +kernel)
theorem near_R {i : Nat} {z : C} {X : G} (hi : i < 4) (h : Rt i X) (hz : RC z X) : ∃ w, plusO z (1015021568, 0) = some w ∧ RC w (X + u64) ∧ Le (X + u64) (23/10) one_ := by
  have h1 := (rt_le h hi).add u64_le
  have h2 : Le (X + u64) (23/10) one_ := h1.mono (by
    have : ∀ i : Nat, i < 4 → rho i + 1/64 ≤ 23/10 := by decide +kernel
    exact this i hi)
  have o : OnG (-6) (X + u64) := OnG.add (h.on.lower (by omega)) ⟨⟨1, by have : (2:Rat)^(-6:Int) = 1/64 := by decide +kernel
                                                                         rw [this]; unfold u64; grind⟩, On.zero _⟩
  obtain ⟨w, w1, w2⟩ := plusO_on hz u64_R h2.bd o (by omega) (by decide +kernel) (by decide +kernel)
  exact ⟨w, w1, w2, h2⟩
/-- What is known of the values near the root with the index i. -/
structure NearV (n i : Nat) (r : Nat → G) (D S T V S1 T1 : G) : Prop where
  v : Le (sc 64 V - D) (kv n) D
  s : Le (S1 - (D + sc (1/64) S)) (2/1000) D
  t : Le (T1 - (sc 2 S + sc (1/64) T)) (1/1000) D
  S_ : Le S (kS n) D
  T_ : Le T (kT n) D
  low : Le one_ (4263/1000) D
  high : Le D 625 one_
  S0 : n = 1 → S = z0
  T0 : n = 1 → T = z0
  t0 : n = 1 → T1 = z0
theorem dd_high {r : Nat → G} {i : Nat} {z : G} (hz : Le z (23/10) one_) : ∀ n, n ≤ 4 → (∀ j, j < n → Rt j (r j)) → Le (dd r i z n) (5 ^ n) one_ := by
  intro n
  induction n with
  | zero => intro _ _; exact (Le.self _).mono (by grind)
  | succ n ih =>
    intro hn hr
    have h := ih (by omega) (fun j hj => hr j (by omega))
    have h5 : (0:Rat) ≤ 5 ^ n := h.1
    have e5 : (5:Rat) ^ (n + 1) = 5 ^ n * 5 := Rat.pow_succ _ _
    simp only [dd]
    split
    · exact h.mono (by rw [e5]; grind)
    · have h1 := (hz.sub (rt_le (hr n (by omega)) (by omega))).mono (b := 5) (by
        have : ∀ i : Nat, i < 4 → 23/10 + rho i ≤ 5 := by decide +kernel
        exact this n (by omega))
      have := h1.mul h
      rw [mul_one] at this
      exact this.mono (by rw [e5]; grind)
theorem Le.off {A D : G} {a b : Rat} (h : Le A a one_) (k : Le one_ b D) : Le A (a * b) D := h.trans k
theorem sub_z0 (A : G) : A - z0 = A := by ext <;> simp [z0] <;> grind
theorem sl_zero' (r : Nat → G) (n k : Nat) (h : n + 1 ≤ k + 1) : sl (cf r n) k = z0 := sl_zero r n k (by omega)
theorem P1_eq {r : Nat → G} {n : Nat} (z : G) (h : 1 ≤ n) : P1 r n z = Hz (sl (cf r n)) (n - 1) z (n - 1) := by
  obtain ⟨m, rfl⟩ : ∃ m, n = m + 1 := ⟨n - 1, by omega⟩
  exact V_more (sl (cf r (m + 1))) m z (sl_zero r (m + 1) (m + 1) (by omega))
theorem P2_eq {r : Nat → G} {n : Nat} (z : G) (h : 2 ≤ n) : P2 r n z = Hz (sl (sl (cf r n))) (n - 2) z (n - 2) := by
  obtain ⟨m, rfl⟩ : ∃ m, n = m + 2 := ⟨n - 2, by omega⟩
  have e1 := V_more (sl (sl (cf r (m + 2)))) (m + 1) z (sl2_zero r (m + 2) (m + 2) (by omega))
  have e2 := V_more (sl (sl (cf r (m + 2)))) m z (sl2_zero r (m + 2) (m + 1) (by omega))
  exact e1.trans e2
theorem small_z0 {r : Nat → G} {n i : Nat} (z : G) (hi : i < n) (hn : n = 1) : ss r i z n = z0 ∧ tt r i z n = z0 ∧ P2 r n z = z0 := by
  subst hn
  obtain rfl : i = 0 := by omega
  refine ⟨rfl, rfl, ?_⟩
  obtain ⟨_, _, g2⟩ := behind r 0 z 1 (by omega)
  rw [g2]
  show sc 2 z0 + (z - r 0) * z0 = z0
  ext <;> simp [z0] <;> grind
theorem near_vals {r : Nat → G} {n i : Nat} {ys : List C} {z : C} (hn : n ≤ 4) (hi : i < n) (hrt : ∀ i, i < n → Rt i (r i)) (hl : ys.length = n + 1) (h : Rl ys (cf r n)) (hz : RC z (r i + u64)) (hZ : Le (r i + u64) (23/10) one_) :
    ∃ ys1 ys2 v s t D S T V S1 T1, Vals ys ys1 ys2 z v s t ∧ RC v V ∧ RC s S1 ∧ RC t T1 ∧ NearV n i r D S T V S1 T1 := by
  have hoff : ∀ j, j < n → j ≠ i → Le one_ (mi i j) (r i + u64 - r j) := fun j hj hji => off_le (by omega) (by omega) hji (hrt i hi) (hrt j hj)
  obtain ⟨q1, q2, q3⟩ := rel hoff n (Nat.le_refl _)
  obtain ⟨p1, p2, p3⟩ := consts i (by omega) n (by omega) hi
  obtain ⟨g0, g1, g2⟩ := behind r i (r i + u64) n hi
  have eU : r i + u64 - r i = u64 := by ext <;> simp <;> grind
  rw [eU] at g0 g1 g2
  have hD := dd_high hZ n hn hrt (i := i)
  have hD5 : (5:Rat) ^ n ≤ 625 := by
    have : ∀ n : Nat, n < 5 → (5:Rat) ^ n ≤ 625 := by decide +kernel
    exact this n (by omega)
  have hcf := cf_le n hn hrt
  obtain ⟨e1, e2, e3⟩ := er_ok n (by omega)
  obtain ⟨b1', b2', b3'⟩ := b_ok n (by omega) (by omega)
  have low := q3.mono p3
  -- the value
  obtain ⟨v, V, v1, v2, v3⟩ := horner_R (b := bt n) hl h hz hZ (by decide +kernel) hcf b1' (fun j hj => (hb_ok n (by omega) j (by omega) hj).1) n (Nat.le_refl _)
  have v3' : Le (V - P0 r n (r i + u64)) (er (bt n) n (23/10) n) one_ := v3
  rw [g0] at v3'
  have hV : Le (sc 64 V - dd r i (r i + u64) n) (kv n) (dd r i (r i + u64) n) := by
    have := (v3'.sc (k := 64) (by decide)).off low
    rw [show sc 64 (V - u64 * dd r i (r i + u64) n) = sc 64 V - dd r i (r i + u64) n by unfold u64; ext <;> simp <;> grind] at this
    exact this.mono (by grind)
  -- the slope
  obtain ⟨ys1, s1, s2, s3⟩ := slopeO_R (t := -12) hl (by omega) hn h (fun k => cf_bd n hn hrt k) (by decide +kernel) (by decide +kernel) (fun k => (cf_on n (fun i hi => (hrt i hi).on) k).lower (by omega)) (by omega)
  have s2' : ys1.length = n - 1 + 1 := by omega
  obtain ⟨s, S1, t1, t2, t3⟩ := horner_R (b := b1 n) s2' s3 hz hZ (by decide +kernel) (sl_le hcf) b2' (fun j hj => hb_ok1 n (by omega) j (by omega) hj) (n - 1) (Nat.le_refl _)
  have t3' : Le (S1 - P1 r n (r i + u64)) (er (b1 n) (n - 1) (23/10) (n - 1)) one_ := by
    rw [P1_eq _ (by omega)]; exact t3
  rw [g1] at t3'
  have hS : Le (S1 - (dd r i (r i + u64) n + sc (1/64) (ss r i (r i + u64) n))) (2/1000) (dd r i (r i + u64) n) := by
    have := t3'.off low
    rw [show dd r i (r i + u64) n + u64 * ss r i (r i + u64) n = dd r i (r i + u64) n + sc (1/64) (ss r i (r i + u64) n) by unfold u64; ext <;> simp <;> grind] at this
    exact this.mono (by grind)
  -- the slope of the slope
  have hlast1 : (sl (cf r n) (n - 1)).x ≠ 0 := by
    unfold sl
    rw [show n - 1 + 1 = n by omega, cf_top]
    show 1 * ri n ≠ 0
    have : (0:Rat) < ri n := by unfold ri; exact_mod_cast (by omega : 0 < n)
    grind
  have vp1 : VP ys1 := VP_of s2' (by omega) s3 (.inr (.inl hlast1))
  have third : ∃ ys2 t T1, slopeO ys1 = some ys2 ∧ VP ys2 ∧ hornerO ys2 z = some t ∧ RC t T1 ∧ Le (T1 - P2 r n (r i + u64)) (er (b2 n) (n - 2) (23/10) (n - 2)) one_ ∧ (n = 1 → T1 = z0) := by
    by_cases h1 : n = 1
    · have hl1 : ys1.length = 1 := by omega
      refine ⟨[(0, 0)], (0, 0), z0, by unfold slopeO; rw [if_pos hl1], VP_of (f := fun _ => z0) (m := 0) rfl (by omega) (fun k hk => ?_) (.inl rfl), rfl, RC_00, ?_, fun _ => rfl⟩
      · obtain rfl : k = 0 := by simp at hk; omega
        exact RC_00
      · rw [(small_z0 (r i + u64) hi h1).2.2]
        have e : z0 - z0 = (⟨0, 0⟩ : G) := by ext <;> simp [z0] <;> grind
        rw [e]
        refine Le.zero ?_
        subst h1
        decide +kernel
    · obtain ⟨ys2, w1, w2, w3⟩ := slopeO_R (t := -12) (B := 68) s2' (by omega) (by omega) s3
        (fun k => (bd_sl (n := n + 1) (fun k => cf_bd n hn hrt k) (fun k hk => sl_zero' r n k hk) (by omega) k).mono (by decide +kernel))
        (by decide +kernel) (by decide +kernel) (sl_on (fun k => (cf_on n (fun i hi => (hrt i hi).on) k).lower (by omega))) (by omega)
      have w2' : ys2.length = n - 2 + 1 := by omega
      obtain ⟨t, T1, x1, x2, x3⟩ := horner_R (b := b2 n) w2' w3 hz hZ (by decide +kernel) (sl_le (sl_le hcf)) (b3' (by omega)) (fun j hj => hb_ok2 n (by omega) j (by omega) hj) (n - 2) (Nat.le_refl _)
      have hlast2 : (sl (sl (cf r n)) (n - 2)).x ≠ 0 := by
        unfold sl
        rw [show n - 2 + 1 = n - 1 by omega, show n - 1 + 1 = n by omega, cf_top]
        show 1 * ri n * ri (n - 1) ≠ 0
        have a1 : (0:Rat) < ri n := by unfold ri; exact_mod_cast (by omega : 0 < n)
        have a2 : (0:Rat) < ri (n - 1) := by unfold ri; exact_mod_cast (by omega : 0 < n - 1)
        have := Rat.mul_pos a1 a2
        grind
      refine ⟨ys2, t, T1, w1, VP_of w2' (by omega) w3 (.inr (.inl hlast2)), ?_, x2, ?_, fun e => absurd e h1⟩
      · unfold hornerO; rw [show ys2.length - 1 = n - 2 by omega]; exact x1
      · rw [P2_eq _ (by omega)]; exact x3
  obtain ⟨ys2, t, T1, w1, w2, w3, w4, w5, w6⟩ := third
  rw [g2] at w5
  have hT : Le (T1 - (sc 2 (ss r i (r i + u64) n) + sc (1/64) (tt r i (r i + u64) n))) (1/1000) (dd r i (r i + u64) n) := by
    have := w5.off low
    rw [show sc 2 (ss r i (r i + u64) n) + u64 * tt r i (r i + u64) n = sc 2 (ss r i (r i + u64) n) + sc (1/64) (tt r i (r i + u64) n) by unfold u64; ext <;> simp <;> grind] at this
    exact this.mono (by grind)
  have hnz : V.x ≠ 0 ∨ V.y ≠ 0 := by
    by_cases e : V.x = 0 ∧ V.y = 0
    · exfalso
      have h1 := hV.2
      have h2 := low.2
      rw [N_one] at h2
      have e2 : N (sc 64 V - dd r i (r i + u64) n) = N (dd r i (r i + u64) n) := by
        unfold N; simp only [sub_x, sub_y, sc_x, sc_y, e.1, e.2]; grind
      rw [e2] at h1
      have := N_nn (dd r i (r i + u64) n)
      have hkv : kv n * kv n ≤ 1/4 := by
        have : ∀ n : Nat, n < 5 → kv n * kv n ≤ 1/4 := by decide +kernel
        exact this n (by omega)
      have hkd : kd n * kd n ≤ 20 := by
        have : ∀ n : Nat, n < 5 → kd n * kd n ≤ 20 := by decide +kernel
        exact this n (by omega)
      have m1 := Rat.mul_le_mul_of_nonneg_right hkv this
      have m2 := Rat.mul_le_mul_of_nonneg_right hkd this
      grind
    · by_cases e1 : V.x = 0
      · exact .inr (fun e2 => e ⟨e1, e2⟩)
      · exact .inl e1
  refine ⟨ys1, ys2, v, s, t, _, _, _, V, S1, T1, ⟨hz.fin, ?_, v2.fin, isZ_false v2 hnz, s1, vp1, ?_, t2.fin, w1, w2, w3, w4.fin⟩, v2, t2, w4, ⟨hV, hS, hT, q1.mono p1, q2.mono p2, low.mono (kd_le n (by omega)).1, hD.mono hD5, fun e => (small_z0 _ hi e).1, fun e => (small_z0 _ hi e).2.1, w6⟩⟩
  · unfold hornerO; rw [show ys.length - 1 = n by omega]; exact v1
  · unfold hornerO; rw [show ys1.length - 1 = n - 1 by omega]; exact t1
end Go.Proofs.Ytlhdgbiaiacpfaa
