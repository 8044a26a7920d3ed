/- A box away from all roots has no turns. No condition but the sizes. -/
import Derived.Test.YtlhdgbiaiacpfaaM6
import Derived.Test.YtlhdgbiaiacpfaaB11
namespace Go.Proofs.Ytlhdgbiaiacpfaa
open Go.RowKit Num Ieee
open G

/-! A box away from all roots has no turns. No condition but the sizes. -/
def aL : G := ⟨20, 20⟩
def aH : G := ⟨22, 22⟩
theorem away_box : BoxR (1101004800, 1101004800) (1102053376, 1102053376) aL aH := by
  have o : ∀ k : Int, On (-9) ((k:Int):Rat) := fun k => (On.int k).lower (by decide)
  refine ⟨⟨chk_R (by decide +kernel), chk_R (by decide +kernel)⟩, ⟨chk_R (by decide +kernel), chk_R (by decide +kernel)⟩, ⟨o 20, o 20⟩, ⟨o 22, o 22⟩, ⟨⟨by decide +kernel, by decide +kernel⟩, ⟨by decide +kernel, by decide +kernel⟩⟩, ⟨⟨by decide +kernel, by decide +kernel⟩, ⟨by decide +kernel, by decide +kernel⟩⟩, by decide +kernel, by decide +kernel, ⟨⟨by decide +kernel, by decide +kernel⟩, ⟨by decide +kernel, by decide +kernel⟩⟩, by decide +kernel⟩
def ea : Nat → Rat
  | 0 => 1/10000
  | 1 => 1/10000
  | 2 => 1/100
  | 3 => 1/10
  | _ => 4
theorem away_c : ∀ n : Nat, n < 5 → 1 ≤ n → (∀ j : Nat, j < 5 → j ≤ n → (hb (bt n) n 33 j + er (bt n) n 33 j) * 33 + bt n (n - 1 - j) ≤ 1000000000000) ∧ 1 ≤ bt n n ∧ er (bt n) n 33 n ≤ ea n ∧ hb (bt n) n 33 n + er (bt n) n 33 n ≤ 3000000 ∧ 0 ≤ gp (fun _ => 26) n ∧ ea n + 1/1000 < gp (fun _ => 26) n ∧ ea n ≤ 47/1000000 * gp (fun _ => 26) n := by decide +kernel
theorem away_off {j : Nat} {X Z : G} (hj : j < 4) (h : Rt j X) (hs : Side aL aH Z) : 26 * 26 ≤ N (Z - X) := by
  have hx : X.x ≤ 2 := by
    obtain ⟨b0, b1, b2, b3⟩ := rt_b h
    obtain rfl | rfl | rfl | rfl : j = 0 ∨ j = 1 ∨ j = 2 ∨ j = 3 := by omega
    · have := (b0 rfl).2; grind
    · have := (b1 rfl).2; grind
    · have := (b2 rfl).2; grind
    · exact (b3 rfl).2
  have hy := h.im.2
  have h1 : (20:Rat) - 1/100000 ≤ Z.x := hs.x0
  have h2 : (20:Rat) - 1/100000 ≤ Z.y := hs.y0
  have k1 := mul_mono (show (0:Rat) ≤ 179/10 by decide +kernel) (show (0:Rat) ≤ 179/10 by decide +kernel) (show 179/10 ≤ Z.x - X.x by grind) (show 179/10 ≤ Z.x - X.x by grind)
  have k2 := mul_mono (show (0:Rat) ≤ 189/10 by decide +kernel) (show (0:Rat) ≤ 189/10 by decide +kernel) (show 189/10 ≤ Z.y - X.y by grind) (show 189/10 ≤ Z.y - X.y by grind)
  have k3 : (26 * 26 : Rat) ≤ 179/10 * (179/10) + 189/10 * (189/10) := by decide +kernel
  unfold N
  simp only [sub_x, sub_y]
  grind
theorem away_all {r : Nat → G} {n : Nat} {ys : List C} (hn : n ≤ 4) (hn1 : 1 ≤ n) (hrt : ∀ i, i < n → Rt i (r i)) (hl : ys.length = n + 1) (hy : Rl ys (cf r n)) :
    ∃ s σ Z W V α, BoxAll r n ys (1101004800, 1101004800) (1102053376, 1102053376) aL aH 40 s σ (ea n) Z W V α := by
  obtain ⟨c1, c2, c3, c4, c5, c6, _⟩ := away_c n (by omega) hn1
  refine box_all away_box (by omega) (by omega) (fun z Z hz hs => ?_)
  have h1 : (20:Rat) - 1/100000 ≤ Z.x := hs.x0
  have h2 : (20:Rat) - 1/100000 ≤ Z.y := hs.y0
  have h3 : Z.x ≤ (22:Rat) + 1/100000 := hs.x1
  have h4 : Z.y ≤ (22:Rat) + 1/100000 := hs.y1
  have hB : Bd Z 23 := ⟨by unfold Ab; grind, by unfold Ab; grind⟩
  have hZ : Le Z 33 one_ := le_one (by decide +kernel) (by have := N_bd hB; grind)
  exact val_R hn hrt hl hy hz hZ (by decide +kernel) (fun j hj => c1 j (by omega) hj) c2 c3 c4 (by decide +kernel) c5 (P0_low n (fun j hj => ⟨by decide +kernel, away_off (by omega) (hrt j hj) hs⟩)) c6
theorem away_step {Z : Nat → G} (h : ∀ s k : Nat, s < 4 → k < 40 → Bd (Z (s * 40 + k) - (corG aL aH s + sc ((k:Rat) / ((40:Nat):Rat)) (corG aL aH (s + 1) - corG aL aH s))) (1/100000)) {i : Nat} (hi : i < 160) : Bd (Z (nx 160 i) - Z i) (51/1000) := by
  obtain ⟨s, k, hs, hk, rfl⟩ := split_i (m := 40) (i := i) (by omega) (by omega)
  have h1 := h s k hs hk
  have e40 : ((40:Nat):Rat) = 40 := rfl
  rw [e40] at h1
  by_cases hk2 : k + 1 < 40
  · have hnx : nx 160 (s * 40 + k) = s * 40 + (k + 1) := by unfold nx; rw [if_neg (by omega)]; omega
    rw [hnx]
    have h2 := h s (k + 1) hs hk2
    have ek : ((k + 1 : Nat) : Rat) = (k:Rat) + 1 := by push_cast; rfl
    rw [e40, ek] at h2
    obtain rfl | rfl | rfl | rfl : s = 0 ∨ s = 1 ∨ s = 2 ∨ s = 3 := by omega
    all_goals
      simp only [corG, aL, aH, Bd, Ab, sub_x, sub_y, add_x, add_y, sc] at *
      refine ⟨⟨?_, ?_⟩, ⟨?_, ?_⟩⟩ <;> grind
  · have hk39 : k = 39 := by omega
    subst hk39
    have e39 : ((39:Nat):Rat) = 39 := rfl
    have e0 : ((0:Nat):Rat) = 0 := rfl
    rw [e39] at h1
    by_cases hs3 : s < 3
    · have hnx : nx 160 (s * 40 + 39) = (s + 1) * 40 + 0 := by unfold nx; rw [if_neg (by omega)]; omega
      rw [hnx]
      have h2 := h (s + 1) 0 (by omega) (by omega)
      rw [e40, e0] at h2
      obtain rfl | rfl | rfl : s = 0 ∨ s = 1 ∨ s = 2 := by omega
      all_goals
        simp only [corG, aL, aH, Bd, Ab, sub_x, sub_y, add_x, add_y, sc] at *
        refine ⟨⟨?_, ?_⟩, ⟨?_, ?_⟩⟩ <;> grind
    · obtain rfl : s = 3 := by omega
      have hnx : nx 160 (3 * 40 + 39) = 0 * 40 + 0 := by unfold nx; rw [if_pos (by omega)]
      rw [hnx]
      have h2 := h 0 0 (by omega) (by omega)
      rw [e40, e0] at h2
      simp only [corG, aL, aH, Bd, Ab, sub_x, sub_y, add_x, add_y, sc] at *
      refine ⟨⟨?_, ?_⟩, ⟨?_, ?_⟩⟩ <;> grind
def kq (κ : Rat) : Nat → Rat
  | 0 => 0
  | n + 1 => κ * (1 + kq κ n) + kq κ n
theorem P0_near {r : Nat → G} {Z Z' : G} {κ : Rat} : ∀ n, (∀ j, j < n → Le (Z' - Z) κ (Z - r j)) → Le (P0 r n Z' - P0 r n Z) (kq κ n) (P0 r n Z) := by
  intro n
  induction n with
  | zero =>
    intro _
    rw [P0_zero, P0_zero, show one_ - one_ = z0 by unfold one_ z0; ext <;> simp <;> grind]
    exact Le.zero (by show (0:Rat) ≤ 0; decide +kernel)
  | succ n ih =>
    intro h
    have h1 := ih (fun j hj => h j (by omega))
    have h2 := h n (by omega)
    have h3 := (Le.self (P0 r n Z)).add h1
    rw [show P0 r n Z + (P0 r n Z' - P0 r n Z) = P0 r n Z' by ext <;> simp <;> grind] at h3
    have h4 := (h2.mul h3).add ((Le.self (Z - r n)).mul h1)
    rw [P0_succ, P0_succ]
    rw [show (Z' - Z) * P0 r n Z' + (Z - r n) * (P0 r n Z' - P0 r n Z) = (Z' - r n) * P0 r n Z' - (Z - r n) * P0 r n Z by ext <;> simp <;> grind] at h4
    exact h4.mono (by show _ ≤ κ * (1 + kq κ n) + kq κ n; grind)
theorem kq_ok : ∀ n : Nat, n < 5 → kq (28/10000) n ≤ 113/10000 ∧ 0 ≤ kq (28/10000) n := by decide +kernel
theorem away_R {r : Nat → G} {n : Nat} {ys : List C} {s : Nat} {σ : Rat} {Z W V : Nat → G} {α : Nat → Rat} (hn : n ≤ 4) (hn1 : 1 ≤ n) (hrt : ∀ i, i < n → Rt i (r i)) (h : BoxAll r n ys (1101004800, 1101004800) (1102053376, 1102053376) aL aH 40 s σ (ea n) Z W V α) : Ab σ (4/10) := by
  obtain ⟨_, _, _, _, c5, _, c7⟩ := away_c n (by omega) hn1
  obtain ⟨q1, q2⟩ := kq_ok n (by omega)
  have hlow : ∀ i, i < 160 → ∀ j, j < n → 26 * 26 ≤ N (Z i - r j) := fun i hi j hj => away_off (by omega) (hrt j hj) (h.zs i (by omega))
  have hWP : ∀ i, i < 160 → Le (W i - P0 r n (Z i)) (47/1000000) (P0 r n (Z i)) := fun i hi => scale_up (h.wn i (by omega)) c5 (P0_low n (fun j hj => ⟨by decide +kernel, hlow i hi j hj⟩)) c7
  have hal : ∀ i, i < 160 → Ab (α i) (21/10000) := by
    intro i hi
    have hi' := nx_lt hi
    have hst := away_step h.zn hi
    have hk := P0_near (r := r) (Z := Z i) (Z' := Z (nx 160 i)) (κ := 28/10000) n (fun j hj => by
      refine ⟨by decide +kernel, ?_⟩
      have h1 := N_bd hst
      have h2 := hlow i hi j hj
      grind)
    have hq := near_quot (hWP i hi) (hWP _ hi') (h.q i (by omega)) (Rat.le_refl)
    obtain ⟨P, hP⟩ : ∃ P, P = P0 r n (Z i) := ⟨_, rfl⟩
    obtain ⟨P', hP'⟩ : ∃ P', P' = P0 r n (Z (nx 160 i)) := ⟨_, rfl⟩
    have hNP : 0 < N P := by
      have := P0_low (r := r) (Z := Z i) (g := fun _ => 26) n (fun j hj => ⟨by decide +kernel, hlow i hi j hj⟩)
      rw [← hP] at this
      have hg : ∀ n : Nat, n < 5 → 0 < gp (fun _ => 26) n * gp (fun _ => 26) n := by decide +kernel
      have := hg n (by omega)
      grind
    rw [← hP, ← hP'] at hq hk
    have h3 := (Le.self P).add hk
    rw [show P + (P' - P) = P' by ext <;> simp <;> grind] at h3
    have h4 := (hq.trans h3).add hk
    rw [show V i * P - P' + (P' - P) = (V i - one_) * P by unfold one_; ext <;> simp <;> grind] at h4
    have h5 := (h4.mono (show 1/10000 * (1 + kq (28/10000) n) + kq (28/10000) n ≤ 115/10000 by grind)).cancel hNP
    obtain ⟨vx, vy⟩ := h5.bd
    have vx1 : 988/1000 ≤ (V i).x := by simp only [sub_x, one_] at vx; unfold Ab at vx; grind
    have vy1 : Ab (V i).y (115/10000) := by
      simp only [sub_y, one_] at vy
      rwa [show (V i).y - 0 = (V i).y by grind] at vy
    have vx0 : 0 < (V i).x := by grind
    obtain ⟨t, ht⟩ : ∃ t : Rat, t * (V i).x = (V i).y := ⟨(V i).y / (V i).x, div_mul_self (by grind)⟩
    have htb : Ab t (117/10000) := by
      constructor
      · exact le_of_mul vx0 (by rw [ht]; have := vy1.1; grind)
      · exact le_of_mul vx0 (by rw [ht]; have := vy1.2; grind)
    have hA := h.ang i (by omega) t vx0 ht.symm (htb.mono (by decide +kernel))
    have hB := T_near (b := 0) (e := 117/10000) (htb.mono (by decide +kernel)) (Ab.zero (by decide +kernel)) (by rwa [show t - 0 = t by grind])
    rw [show T 0 = 0 by unfold T; decide +kernel] at hB
    have k : Ab (α i * tau) (131/10000) := by
      have hA := hA
      generalize T t = A at *
      generalize α i * tau = B at *
      clear hq hk h3 h4 h5 vx vy htb ht vy1 vx1 vx0 hst hWP hlow h
      unfold Ab at *
      constructor <;> grind
    have htau := tau_b
    have htp : 0 < tau := by grind
    have h1 : (131/10000 : Rat) ≤ 21/10000 * tau := by
      have := Rat.mul_le_mul_of_nonneg_left htau.1 (show (0:Rat) ≤ 21/10000 by decide +kernel)
      have h2 : (131/10000 : Rat) ≤ 21/10000 * (62831853/10000000) := by decide +kernel
      grind
    have k' := k.mono h1
    constructor
    · exact le_of_mul htp (by have := k'.1; grind)
    · exact le_of_mul htp k'.2
  have hS := sumR_ab 160 hal
  have hsum : Ab (σ - sumR α 160) (ri 160 * (1/100000)) := h.sum
  have e160 : ri 160 = 160 := by unfold ri; rfl
  rw [e160] at hS hsum
  have := hsum.add hS
  rw [show σ - sumR α 160 + sumR α 160 = σ by grind] at this
  exact this.mono (by decide +kernel)

/-! All that the law on boxes needs of its roots. No condition but the sizes. -/
theorem gap_R {s W n : Nat} {σ : Rat} (hs : R single s σ) (hW : wid s = some W) (hn : n ≤ 4) (h : Ab (σ - ri n) (84/10000)) : ∃ g, gapO W (floatOfInt .f64 (n : Int)) = some g ∧ (FloatKind.f64.format.order g 4576918229304087675 == some .gt) = false := by
  obtain ⟨W', w1, w2⟩ := wid_R hs
  have e : W' = W := Option.some.inj (w1.symm.trans hW)
  subst e
  have hf : R double (floatOfInt .f64 (n : Int)) (ri n) := f64_range (by omega)
  have he : e53 ≤ 1/10000000000000 ∧ 0 ≤ e53 := by decide +kernel
  have hl : lo64 ≤ 1 := by decide +kernel
  have hh : 4 ≤ hi64 := by decide +kernel
  have h1 : Ab (σ - ri n) 1 := h.mono (by decide +kernel)
  have h2 : Ab (ri n - σ) 1 := by unfold Ab at *; grind
  have fin : ∀ g v, R double g v → v ≤ 9/1000 → (FloatKind.f64.format.order g 4576918229304087675 == some .gt) = false := by
    intro g v hg hv
    have := order_gt hg c001_R
    rw [show FloatKind.f64.format.order g 4576918229304087675 = double.order g c001 from rfl, this]
    simp
    have : (9/1000 : Rat) ≤ 5764607523034235 / 576460752303423488 := by decide +kernel
    grind
  unfold gapO
  by_cases hlt : lt64 W' (floatOfInt .f64 (n : Int)) = true
  · rw [if_pos hlt]
    obtain ⟨g, v, g1, g2, g3, _, _⟩ := sub64_R hf w2 h2 (by grind) (by grind)
    exact ⟨g, g1, fin g v g2 (by unfold Ab at *; grind)⟩
  · rw [if_neg hlt]
    obtain ⟨g, v, g1, g2, g3, _, _⟩ := sub64_R w2 hf h1 (by grind) (by grind)
    exact ⟨g, g1, fin g v g2 (by unfold Ab at *; grind)⟩
theorem count_eq {k : Int} {n : Nat} {σ e : Rat} (h : Ab (σ - ri n) e) (he : e ≤ 4/10) (h1 : (k : Rat) ≤ σ + 1/2 + 1/10000) (h2 : σ + 1/2 - 1/10000 < (k : Rat) + 1) : k = n := by
  have en : (((n:Nat):Int):Rat) = ri n := Rat.intCast_natCast n
  have a1 : (k:Rat) < (((n:Int) + 1 : Int) : Rat) := by
    rw [Rat.intCast_add, en]
    have e1 : ((1:Int):Rat) = 1 := rfl
    rw [e1]; unfold Ab at h; grind
  have a2 : (((n:Int) : Int) : Rat) < ((k + 1 : Int) : Rat) := by
    rw [Rat.intCast_add, en]
    have e1 : ((1:Int):Rat) = 1 := rfl
    rw [e1]; unfold Ab at h; grind
  have b1 := Rat.intCast_lt_intCast.1 a1
  have b2 := Rat.intCast_lt_intCast.1 a2
  omega
theorem boxes_ok (rs : List C) (hd : Drawn rs) (h1 : 1 ≤ rs.length) (h4 : rs.length ≤ 4) : ∃ ys, BoxesOk rs ys := by
  obtain ⟨r, hr⟩ := hd.roots h4
  obtain ⟨ys, p1, p2, p3⟩ := prO_R h4 hr rs.length (Nat.le_refl _)
  have hrt := hr.rt
  have hvp : VP ys := VP_of p2 (by omega) p3 (.inr (.inl (by rw [cf_top]; unfold one_; decide +kernel)))
  obtain ⟨d, hbox⟩ := (fam_box (a := 0) (b := 0) (h := 8) (by omega) (by omega) (by omega)).isBox
  obtain ⟨s, σ, Z, W, V, α, hall⟩ := fam_all (a := 0) (b := 0) (h := 8) (m := 40) h4 h1 hrt p2 p3 (by omega) (by omega) (by omega) (by omega) (by omega)
  have hm := main_R h4 h1 hrt hall
  obtain ⟨f, k, f1, f2, f3⟩ := hall.count (by omega)
  have hk := count_eq hm (by decide +kernel) f2 f3
  subst hk
  obtain ⟨Wd, w1, _⟩ := wid_R hall.rs
  obtain ⟨g, g1, g2⟩ := gap_R hall.rs w1 h4 hm
  obtain ⟨ns, hf⟩ := fam_four (a := 0) (b := 0) (h := 4) h4 h1 hrt p2 p3 (by omega) (by omega) (by omega)
  obtain ⟨res, n1, n2⟩ := fam_nrw h4 h1 hrt p2 p3 3 0 0 (by decide) (by decide)
  obtain ⟨s', σ', Z', W', V', α', hall'⟩ := away_all h4 h1 hrt p2 p3
  have hm' := away_R h4 h1 hrt hall'
  obtain ⟨f', k', f1', f2', f3'⟩ := hall'.count (by omega)
  have hk' : k' = ((0:Nat):Int) := count_eq (n := 0) (by
    have e : ri 0 = 0 := rfl
    rw [e, show σ' - 0 = σ' by grind]; exact hm') (Rat.le_refl) f2' f3'
  subst hk'
  exact ⟨ys, ⟨p1, hvp, p2, fun i hi => (hr.rc i hi).fin, ⟨d, hbox⟩, ⟨s, f, Wd, g, hall.ok, f1, w1, g1, g2⟩, ⟨_, ns, hf⟩, ⟨res, n1, n2⟩, ⟨s', f', hall'.ok, f1'⟩⟩⟩
theorem laws_FnBoxes' (A A' : Option Addr) (n c n' c' : Nat) (w : World) (hn : n ≤ 9223372036854775807) (hn' : n' ≤ 9223372036854775807) (hb : Bts w w.heap.size A n) (hb' : Bts w w.heap.size A' n') :
    Calls Try.prog 3 #[.slice A n c, .slice A' n' c'] w fun e w' => e = .returned (.bool true) ∧ Below w.heap.size w w' :=
  laws_FnBoxes boxes_ok A A' n c n' c' w hn hn' hb hb'
end Go.Proofs.Ytlhdgbiaiacpfaa
