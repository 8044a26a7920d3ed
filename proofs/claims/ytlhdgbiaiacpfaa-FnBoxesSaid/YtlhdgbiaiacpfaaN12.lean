/- Newton's and Halley's steps near a root. -/
import Derived.Test.YtlhdgbiaiacpfaaN11
namespace Go.Proofs.Ytlhdgbiaiacpfaa
open Go.RowKit Num Ieee
open G
theorem gdiv (X : G) {Y : G} (h : N Y ≠ 0) : ∃ Q : G, Q * Y = X := by
  refine ⟨⟨(X * conj Y).x / N Y, (X * conj Y).y / N Y⟩, ?_⟩
  have e : N Y = Y.x * Y.x + Y.y * Y.y := rfl
  have e1 : (X * conj Y).x / N Y * N Y = (X * conj Y).x := div_mul_self h
  have e2 : (X * conj Y).y / N Y * N Y = (X * conj Y).y := div_mul_self h
  generalize (X * conj Y).x / N Y = a at *
  generalize (X * conj Y).y / N Y = b at *
  simp only [mul_x, mul_y, conj_x, conj_y] at e1 e2
  ext
  · simp only [mul_x]
    have : (a * Y.x - b * Y.y - X.x) * N Y = 0 := by
      have e3 : (a * Y.x - b * Y.y - X.x) * N Y = (a * N Y) * Y.x - (b * N Y) * Y.y - X.x * N Y := by grind
      rw [e3, e1, e2, e]; grind
    grind
  · simp only [mul_y]
    have : (a * Y.y + b * Y.x - X.y) * N Y = 0 := by
      have e3 : (a * Y.y + b * Y.x - X.y) * N Y = (a * N Y) * Y.y + (b * N Y) * Y.x - X.y * N Y := by grind
      rw [e3, e1, e2, e]; grind
    grind
/-- Near D: D is not much longer. -/
theorem Le.inv {Y D : G} {a p : Rat} (h : Le (Y - D) a D) (ha : a < 1) (hp : 0 ≤ p) (hpa : 1 ≤ p * (1 - a)) : Le D p Y := by
  refine ⟨hp, ?_⟩
  have hm := mixed (A := -D) (B := Y - D) (p := 1) (q := a) (by decide +kernel) h.1 (N_nn D) (by unfold N; simp only [neg_x, neg_y]; grind) h.2
  have hcs := sq_nn (D.x * Y.y - D.y * Y.x)
  have h2 : (D.x * Y.x + D.y * Y.y) * (D.x * Y.x + D.y * Y.y) ≤ N D * N Y := by unfold N; grind
  have h3 : (1 - a) * N D ≤ D.x * Y.x + D.y * Y.y := by
    simp only [neg_x, neg_y, sub_x, sub_y] at hm
    unfold N at *
    grind
  have hn := N_nn D
  have h4 := mul_mono (Rat.mul_nonneg (show 0 ≤ 1 - a by grind) hn) (Rat.mul_nonneg (show 0 ≤ 1 - a by grind) hn) h3 h3
  by_cases h0 : N D = 0
  · rw [h0]; exact Rat.mul_nonneg (Rat.mul_nonneg hp hp) (N_nn Y)
  · have hpos : 0 < N D := by grind
    have h5 : (1 - a) * (1 - a) * N D ≤ N Y := by
      refine le_of_mul hpos ?_
      have e : (1 - a) * N D * ((1 - a) * N D) = (1 - a) * (1 - a) * N D * N D := by grind
      grind
    have h6 := mul_mono (show (0:Rat) ≤ 1 by grind) (show (0:Rat) ≤ 1 by grind) hpa hpa
    have h7 := Rat.mul_le_mul_of_nonneg_right h6 hn
    have h8 := Rat.mul_le_mul_of_nonneg_left h5 (Rat.mul_nonneg hp hp)
    have e : p * (1 - a) * (p * (1 - a)) * N D = p * p * ((1 - a) * (1 - a) * N D) := by grind
    grind
theorem Le.cancel {A Y : G} {a : Rat} (h : Le (A * Y) a Y) (hY : 0 < N Y) : Le A a one_ := by
  refine ⟨h.1, ?_⟩
  have := h.2
  rw [N_mul] at this
  rw [N_one]
  have := le_of_mul hY this
  grind
theorem N_pos {D : G} {b : Rat} (h : Le one_ b D) : 0 < N D := by
  have := h.2
  rw [N_one] at this
  have hn := N_nn D
  by_cases e : N D = 0
  · rw [e] at this; grind
  · grind
theorem N_ge {D : G} {b c : Rat} (h : Le one_ b D) (hc : b * b * c ≤ 1) : c ≤ N D := by
  have h1 := h.2
  rw [N_one] at h1
  have hb : 0 < b * b := by
    have := Rat.mul_nonneg h.1 h.1
    by_cases e : b * b = 0
    · rw [e] at h1; grind
    · grind
  refine le_of_mul hb ?_
  grind

/-! A number that is a hundredth off, at most. -/
def c001 : Nat := 4576918229304087675
theorem c001_R : R double c001 (5764607523034235 / 576460752303423488) := chk_R (by decide +kernel)
def Off (a b : C) : Prop := ∃ d l w, minusO a b = some d ∧ longO d = some l ∧ wid l = some w ∧ (FloatKind.f64.format.order w c001 == some .gt) = false
theorem off_R {a b : C} {A B : G} (ha : RC a A) (hb : RC b B) (h : N (A - B) ≤ 9/1000 * (9/1000)) : Off a b := by
  have hbd := bd_N (show (0:Rat) ≤ 9/1000 by decide +kernel) h
  obtain ⟨d, E, d1, d2, d3⟩ := minusO_R ha hb hbd (by decide +kernel) (by decide +kernel)
  have hd : N E ≤ 95/10000 * (95/10000) := by
    have h1 := (le_one (by decide +kernel) h).add (bd_le d3)
    rw [show A - B + (E - (A - B)) = E by ext <;> simp <;> grind] at h1
    have := of_le_one (h1.mono (b := 95/10000) (by decide +kernel))
    exact this
  obtain ⟨l, L, l1, l2, l3, l4, _⟩ := longO_R d2 hd (by decide +kernel) (by decide +kernel)
  obtain ⟨w, w1, w2⟩ := wid_R l2
  refine ⟨d, l, w, d1, l1, w1, ?_⟩
  have hlt : L < 5764607523034235 / 576460752303423488 := by
    have h1 : (95/10000:Rat) * (1 + 4 * e24) < 5764607523034235 / 576460752303423488 := by decide +kernel
    grind
  have : FloatKind.f64.format.order w c001 = some .lt := (order_R w2 c001_R).1 hlt
  rw [this]; rfl
theorem quot_R {u v : C} {X Y Q : G} {B : Rat} (hu : RC u X) (hv : RC v Y) (hQ : Q * Y = X) (hb : Bd Q B) (h1 : 1/1000000 ≤ B) (h2 : B ≤ 1000000000000) (h3 : 1/1000000 ≤ N Y) (h4 : N Y ≤ 1000000000000000) :
    ∃ q V, quotO u v = some q ∧ RC q V ∧ Bd (V - Q) (B * (4 * e24)) := by
  have hB : 1/1000000 * (1/1000000) ≤ B * N Y := mul_mono (by decide +kernel) (by decide +kernel) h1 h3
  have hB2 : B * N Y ≤ 1000000000000 * 1000000000000000 := mul_mono (by grind) (by grind) h2 h4
  have a1 : tiny ≤ 1/1000000 * (1/1000000) := by decide +kernel
  have a2 : tiny * tiny ≤ 1/1000000 * (1/1000000) := by decide +kernel
  have a3 : 2 * (1000000000000 * 1000000000000000) ≤ huge := by decide +kernel
  have a4 : (10000000000000000:Rat) ≤ huge := by decide +kernel
  exact quotO_R hu hv hQ hb (by grind) (by grind) (by grind) (by grind) (by grind) (by grind)
/-- What is taken away of z is near to what z is off its root. -/
theorem sub_R {z q : C} {X Q V : G} (hz : RC z (X + u64)) (hZ : Le (X + u64) (23/10) one_) (hq : RC q V) (hV : Bd (V - Q) (1/1000000)) (hQ : Le (sc 64 Q - one_) (57/100) one_) :
    ∃ r W, minusO z q = some r ∧ RC r W ∧ N (W - X) ≤ 9/1000 * (9/1000) := by
  have k1 : Le (Q - u64) (57/6400) one_ := by
    have h := hQ.sc (k := 1/64) (by decide +kernel)
    rw [show sc (1/64) (sc 64 Q - one_) = Q - u64 by unfold one_ u64; ext <;> simp <;> grind] at h
    exact h.mono (by decide +kernel)
  have k2 := bd_le hV
  have hsum : Le (X + u64 - V) 4 one_ := by
    have h := (hZ.sub ((k1.add u64_le).add k2)).mono (b := 4) (by decide +kernel)
    rwa [show X + u64 - (Q - u64 + u64 + (V - Q)) = X + u64 - V by ext <;> simp <;> grind] at h
  obtain ⟨r, W, r1, r2, r3⟩ := minusO_R hz hq hsum.bd (by decide +kernel) (by decide +kernel)
  refine ⟨r, W, r1, r2, ?_⟩
  have h := ((bd_le r3).sub (k1.add k2)).mono (b := 9/1000) (by decide +kernel)
  rw [show W - (X + u64 - V) - (Q - u64 + (V - Q)) = W - X by ext <;> simp <;> grind] at h
  exact of_le_one h
/-- The slope is near to D. -/
theorem NearV.s' {n i : Nat} {r : Nat → G} {D S T V S1 T1 : G} (h : NearV n i r D S T V S1 T1) : Le (S1 - D) (kS n / 64 + 2/1000) D := by
  have := (h.s.add (h.S_.sc (k := 1/64) (by decide +kernel))).mono (b := kS n / 64 + 2/1000) (by grind)
  rwa [show S1 - (D + sc (1/64) S) + sc (1/64) S = S1 - D by ext <;> simp <;> grind] at this
theorem k_ok : ∀ n : Nat, n < 5 → 1 ≤ n → 0 ≤ kS n ∧ kS n ≤ 481/100 ∧ 0 ≤ kT n ∧ kT n ≤ 1421/100 ∧ 0 ≤ kv n ∧ kv n ≤ 6/100 := by decide +kernel
theorem NearV.S1_low {n i : Nat} {r : Nat → G} {D S T V S1 T1 : G} (h : NearV n i r D S T V S1 T1) (hn : n ≤ 4) (hn1 : 1 ≤ n) : Le D (11/10) S1 ∧ Le S1 (11/10) D ∧ 1/100 ≤ N S1 ∧ N S1 ≤ 1000000 := by
  obtain ⟨k1, k2, _⟩ := k_ok n (by omega) hn1
  have hs := h.s'.mono (b := 8/100) (by grind)
  have h1 : Le D (11/10) S1 := hs.inv (by decide +kernel) (by decide +kernel) (by decide +kernel)
  have h2 : Le S1 (11/10) D := by
    have := (hs.add (Le.self D)).mono (b := 11/10) (by decide +kernel)
    rwa [show S1 - D + D = S1 by ext <;> simp <;> grind] at this
  refine ⟨h1, h2, ?_, ?_⟩
  · have := h.low.trans h1
    exact N_ge this (by decide +kernel)
  · have := of_le_one (h2.trans h.high)
    exact Rat.le_trans this (by decide +kernel)
theorem newton_R {n i : Nat} {r : Nat → G} {D S T V S1 T1 : G} (h : NearV n i r D S T V S1 T1) (hn : n ≤ 4) (hn1 : 1 ≤ n) {z v s : C} (hz : RC z (r i + u64)) (hZ : Le (r i + u64) (23/10) one_) (hv : RC v V) (hs : RC s S1) :
    ∃ q q', quotO v s = some q ∧ FinC q ∧ minusO z q = some q' ∧ FinC q' ∧ ∃ W, RC q' W ∧ N (W - r i) ≤ 9/1000 * (9/1000) := by
  obtain ⟨k1, k2, _, _, k3, k4⟩ := k_ok n (by omega) hn1
  obtain ⟨a1, a2, a3, a4⟩ := h.S1_low hn hn1
  obtain ⟨Q, hQ⟩ := gdiv V (show N S1 ≠ 0 by grind)
  have hrel : Le (sc 64 Q - one_) (57/100) one_ := by
    have h1 := h.v.sub h.s'
    rw [show sc 64 V - D - (S1 - D) = (sc 64 Q - one_) * S1 by rw [← hQ]; unfold one_; ext <;> simp <;> grind] at h1
    have h2 := (h1.trans a1).mono (b := 57/100) (by grind)
    exact h2.cancel (by grind)
  have hQb : Bd Q 1 := by
    have h1 := (hrel.add (Le.self one_)).sc (k := 1/64) (by decide +kernel)
    rw [show sc (1/64) (sc 64 Q - one_ + one_) = Q by unfold one_; ext <;> simp <;> grind] at h1
    exact (h1.mono (b := 1) (by decide +kernel)).bd
  obtain ⟨q, Vq, q1, q2, q3⟩ := quot_R hv hs hQ hQb (by decide +kernel) (by decide +kernel) (by grind) (by grind)
  obtain ⟨w, W, w1, w2, w3⟩ := sub_R hz hZ q2 (q3.mono (by decide +kernel)) hrel
  exact ⟨q, w, q1, q2.fin, w1, w2.fin, W, w2, w3⟩
end Go.Proofs.Ytlhdgbiaiacpfaa
