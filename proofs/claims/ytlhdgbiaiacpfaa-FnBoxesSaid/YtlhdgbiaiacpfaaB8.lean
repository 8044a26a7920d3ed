/- The box that is narrowed, the program's. No condition but that the operations are valid and finite. -/
import Derived.Test.YtlhdgbiaiacpfaaB7
namespace Go.Proofs.Ytlhdgbiaiacpfaa
open Go.RowKit

/-- The first of n numbers that is positive, -1 if there is none. -/
def fp (f : Nat → Int) : Nat → Int
  | 0 => -1
  | k + 1 => if fp f k < 0 ∧ 0 < f k then (k : Int) else fp f k
theorem fp_lt (f : Nat → Int) : ∀ n : Nat, fp f n < n ∧ -1 ≤ fp f n := by
  intro n
  induction n with
  | zero => simp [fp]
  | succ n ih => unfold fp; split <;> omega
theorem fp_found {f : Nat → Int} {k : Nat} (h : fp f k < 0) (hk : 0 < f k) : ∀ n, k < n → fp f n = k := by
  intro n
  induction n with
  | zero => intro h; omega
  | succ n ih =>
    intro hn
    by_cases e : k = n
    · subst e; simp [fp, h, hk]
    · have := ih (by omega)
      unfold fp
      rw [this]
      rw [if_neg (by omega)]
theorem uptoI_at {f : Nat → Int} {n k : Nat} (h : k < n) : (uptoI f n).getD k 0 = f k := by simp [uptoI, List.getD, h]

theorem impl_narrow1 (x : Int) (w : World) : Calls Try.prog 40 #[.int .i64 x] w fun e w' => e = .returned (.bool (decide (0 < x))) ∧ w = w' := by
  go_enter Try.func40, Try.ntmps40
  go_wp2
  go_ret
  exact ⟨rfl, rfl⟩
theorem indexFuncI_none (w : World) : Calls Try.prog 39 #[.slice none 0 0, .func (.func 40) #[] #[]] w fun e w' => e = .returned (.int .i64 (-1)) ∧ Below w.heap.size w w' := by
  go_enter Try.func39, Try.ntmps39
  go_wp2
  go_loopw [8] (fun i wr => i = .int .i64 0 ∧ Below w.heap.size w wr) (fun _ _ => 0)
  case atStart => exact ⟨rfl, Below.refl _ _⟩
  case round =>
    obtain ⟨rfl, hb⟩ := hrel
    go_wp2
    go_ret
    exact ⟨rfl, hb⟩

set_option maxHeartbeats 400000 in
theorem indexFuncI (g cap n : Nat) (f : Nat → Int) (w : World) (hn : n ≤ 1000) (hr : RdI w g (uptoI f n)) :
    Calls Try.prog 39 #[.slice (some ⟨g, 0, none⟩) n cap, .func (.func 40) #[] #[]] w fun e w' => e = .returned (.int .i64 (fp f n)) ∧ Below w.heap.size w w' := by
  have HR := Lib.hid hr
  clear hr
  go_enter Try.func39, Try.ntmps39
  go_wp2
  go_loopw [8] (fun i wr => ∃ k : Nat, k ≤ n ∧ i = .int .i64 k ∧ fp f k = -1 ∧ Below w.heap.size w wr) (fun i _ => n - (intOf i).toNat)
  case atStart => exact ⟨0, Nat.zero_le _, rfl, rfl, Below.refl _ _⟩
  case round =>
    obtain ⟨k, hk, rfl, hfk, hb⟩ := hrel
    have HFK := Lib.hid hfk
    clear hfk
    by_cases hlt : k < n
    · have hx : wr.cell? ⟨g, k, none⟩ = some (.int .i64 (f k)) := by have := (HR.out.below hb).2 k (by rw [uptoI_length]; exact hlt); rwa [uptoI_at hlt] at this
      by_cases hp : 0 < f k
      · have e := fp_found (by rw [HFK.out]; omega) hp n hlt
        have HE := Lib.hid e
        have hd : decide (0 < f k) = true := decide_eq_true hp
        have Y := Lib.hid (fun W => by have := impl_narrow1 (f k) W; rw [hd] at this; exact this)
        clear hd hp e
        go_wp2_with (go_at_call 40; refine (Y.out _).mono ?_; rintro e w' ⟨rfl, rfl⟩)
        go_ret
        exact ⟨by rw [HE.out]; rfl, hb⟩
      · have hd : decide (0 < f k) = false := decide_eq_false hp
        have HE : Hid (fp f (k + 1) = -1) := Lib.hid (by unfold fp; rw [if_neg (by omega)]; exact HFK.out)
        have Y := Lib.hid (fun W => by have := impl_narrow1 (f k) W; rw [hd] at this; exact this)
        clear hd hp
        go_wp2_with (go_at_call 40; refine (Y.out _).mono ?_; rintro e w' ⟨rfl, rfl⟩)
        go_roundw
        case rel => exact ⟨k + 1, by omega, by go_num, HE.out, hb⟩
        case measure => simp [intOf]; omega
    · have e : k = n := by omega
      subst e
      go_wp2
      go_ret
      exact ⟨by rw [HFK.out]; rfl, hb⟩

/-- What is asked of a box that is narrowed t times, and what it comes to. -/
def Nrw (ys : List C) (m : Nat) : Nat → C → C → Option (C × C) → Prop
  | 0, low, high, r => r = some (low, high)
  | t + 1, low, high, r => ∃ d md ns, IsBox low high d ∧ Four ys low high md m ns ∧ (if allTo (fun i => okN (ns i) ys.length) 4 = true ∧ 0 ≤ fp ns 4 then Nrw ys m t (qlo low md (fp ns 4).toNat) (qhi md high (fp ns 4).toNat) r else r = none)
def resN : Option (C × C) → Value
  | some x => .tuple #[cv x.1, cv x.2, .bool true]
  | none => .tuple #[.complex .f32 0 0, .complex .f32 0 0, .bool false]

/-- What lies in memory while a box is narrowed. -/
structure NF (w : World) (bp g cap : Nat) (ys : List C) (W : World) : Prop where
  c : W.cell? ⟨bp, 0, none⟩ = some (.slice (some ⟨g, 0, none⟩) ys.length cap)
  ry : Rd W g ys
  b : Below w.heap.size w W
theorem NF.step {w : World} {bp g cap : Nat} {ys : List C} {W W' : World} (h : NF w bp g cap ys W) (hb : Below W.heap.size W W') : NF w bp g cap ys W' :=
  ⟨kc hb h.c, h.ry.below hb, below_trans h.b hb⟩
theorem NF.drewN {w : World} {bp g cap : Nat} {ys : List C} {W : World} (h : NF w bp g cap ys W) (n : Nat) : NF w bp g cap ys (W.drewN n) := ⟨h.c, h.ry, below_drewN h.b n⟩
theorem resN_none {r : Option (C × C)} (h : r = none) : Ending.returned (.tuple #[.complex .f32 0 0, .complex .f32 0 0, .bool false]) = .returned (resN r) := by rw [h]; rfl
theorem resN_some {r : Option (C × C)} {a b : C} (h : r = some (a, b)) : Ending.returned (.tuple #[cv a, cv b, .bool true]) = .returned (resN r) := by rw [h]; rfl

set_option maxRecDepth 100000 in
set_option maxHeartbeats 4000000 in
theorem impl_NarrowBox (g cap : Nat) (ys : List C) (low high d : C) (m t : Nat) (r : Option (C × C)) (w : World) (hr : Rd w g ys) (hv : VP ys) (h2 : 2 ≤ ys.length) (hm : 4 ≤ m) (hm2 : m ≤ 64) (ht : t ≤ 20) (hbox : IsBox low high d) (h : Nrw ys m t low high r) :
    Calls Try.prog 15 #[.agg #[.slice (some ⟨g, 0, none⟩) ys.length cap], cv low, cv high, .int .i64 m, .int .i64 t] w fun e w' => e = .returned (resN r) ∧ Below w.heap.size w w' := by
  have HN := Lib.hid h
  have HV := Lib.hid hv
  have HR := Lib.hid hr
  clear hv hr h
  go_enter Try.func15, Try.ntmps15
  go_wp2_with (first
    | (go_at_call 24; refine (impl_isRooted g cap ys _ (HR.out.alloc _) HV.out h2).mono ?_; rintro e w1 ⟨rfl, hb1⟩; have hc1 := box_cell hb1; have hr1 := (HR.out.alloc _).below hb1; have hB1 := Lib.hid (below_alloc hb1); clear hb1)
    | (go_at_call 25; refine (impl_isBox low high d _ hbox).mono ?_; rintro e w2 ⟨rfl, hb2⟩; have hc2 := kc hb2 hc1; have hr2 := hr1.below hb2; have hB2 := Lib.hid (below_trans hB1.out hb2); clear hb2)
    | (go_at_call 26; (with_reducible refine (impl_within m 4 64 _ (by omega) (by omega)).mono ?_); rintro e w' ⟨rfl, rfl⟩)
    | (go_at_call 26; (with_reducible refine (impl_within t 0 20 _ (by omega) (by omega)).mono ?_); rintro e w' ⟨rfl, rfl⟩))
  have HF0 : Hid (NF w w.heap.size g cap ys w2) := Lib.hid ⟨hc2, hr2, hB2.out⟩
  clear hc1 hc2 hr1 hr2 hB1 hB2
  obtain ⟨bp, hbp⟩ : ∃ bp, bp = w.heap.size := ⟨_, rfl⟩
  have HF : Hid (NF w bp g cap ys w2) := Lib.hid (by rw [hbp]; exact HF0.out)
  rw [← hbp]
  clear HF0 hbp
  go_loopg [1, 2, 37] (t : Nat) (fun gk a b i wr => ∃ (k : Nat) (lo hi : C), k ≤ t ∧ gk = t - k ∧ a = cv lo ∧ b = cv hi ∧ i = .int .i64 k ∧ Hid (Nrw ys m (t - k) lo hi r) ∧ Hid (NF w bp g cap ys wr))
  case atStart => exact ⟨0, low, high, by omega, by omega, rfl, rfl, rfl, HN, HF⟩
  case round =>
    obtain ⟨k, lo, hi, hk, hgk, rfl, rfl, rfl, HN1, HF1⟩ := hrel
    obtain ⟨wo, rfl⟩ : ∃ wo : World, wo = wr := ⟨_, rfl⟩
    have HGK := Lib.hid hgk
    clear hgk HN HF
    by_cases hlt : k < t
    · have hdec : decide ((k : Int) < (t : Int)) = true := by simp; omega
      have hN := HN1.out
      rw [show t - k = (t - (k + 1)) + 1 by omega] at hN
      obtain ⟨d1, md, ns, hx1, hfour, hif⟩ := hN
      have hmid := hfour.mid
      have HX1 := Lib.hid hx1
      have HQ := Lib.hid hfour
      have HM := Lib.hid hmid
      clear hx1 hfour hmid HN1
      have cc := HF1.out.c
      cases hA : allTo (fun i => okN (ns i) ys.length) 4 with
      | false =>
        rw [hA, if_neg (by simp)] at hif
        have HI := Lib.hid hif
        have HAA := Lib.hid hA
        clear hif hA
        go_wp2_with (first
          | (go_at_call 12; refine (impl_FourBoxes g cap ys lo hi md d1 m ns _ HF1.out.ry HV.out h2 hm hm2 HX1.out HQ.out).mono ?_; rintro e w3 ⟨hb3, -, hf3⟩; obtain rfl := hf3 HAA.out; clear hf3)
          | (go_at_call 39; refine (indexFuncI_none _).mono ?_; rintro e w4 ⟨rfl, hb4⟩))
        go_ret3
        exact ⟨resN_none HI.out, below_trans (below_trans HF1.out.b hb3) hb4⟩
      | true =>
        obtain ⟨q1, q2⟩ := fp_lt ns 4
        obtain ⟨p, hp⟩ : ∃ p, p = fp ns 4 := ⟨_, rfl⟩
        rw [← hp] at q1 q2
        have HPP := Lib.hid hp
        have HAA := Lib.hid hA
        by_cases hp0 : p < 0
        · rw [if_neg (by rw [← hp]; omega)] at hif
          have HI := Lib.hid hif
          have hd0 : decide (p < 0) = true := decide_eq_true hp0
          clear hif hA hp hp0
          go_wp2_with (first
            | (go_at_call 12; refine (impl_FourBoxes g cap ys lo hi md d1 m ns _ HF1.out.ry HV.out h2 hm hm2 HX1.out HQ.out).mono ?_; rintro e w3 ⟨hb3, ht3, -⟩; obtain ⟨gv, capv, rfl, hgv, hrv⟩ := ht3 HAA.out; clear ht3)
            | (go_at_call 39; refine (indexFuncI gv capv 4 ns _ (by omega) hrv).mono ?_; rw [← HPP.out]; rintro e w4 ⟨rfl, hb4⟩))
          go_ret3
          exact ⟨resN_none HI.out, below_trans (below_trans HF1.out.b hb3) hb4⟩
        · obtain ⟨n, rfl⟩ := Int.eq_ofNat_of_zero_le (by omega : 0 ≤ p)
          have hn4 : n < 4 := by omega
          rw [if_pos ⟨hA, by rw [← hp]; omega⟩, ← hp] at hif
          have HI : Hid (Nrw ys m (t - (k + 1)) (qlo lo md n) (qhi md hi n) r) := Lib.hid hif
          have hd0 : decide ((n : Int) < 0) = false := decide_eq_false hp0
          have hn0 : (0 : Int) ≤ n := by omega
          have hn4' : (n : Int) < 4 := by omega
          clear hif hA hp hp0 q1 q2
          go_upto_region 9 with (first
            | (go_at_call 12; refine (impl_FourBoxes g cap ys lo hi md d1 m ns _ HF1.out.ry HV.out h2 hm hm2 HX1.out HQ.out).mono ?_; rintro e w3 ⟨hb3, ht3, -⟩; obtain ⟨gv, capv, rfl, hgv, hrv⟩ := ht3 HAA.out; clear ht3)
            | (go_at_call 39; refine (indexFuncI gv capv 4 ns _ (by omega) hrv).mono ?_; rw [← HPP.out]; rintro e w4 ⟨rfl, hb4⟩; have HF4 := Lib.hid ((HF1.out.step hb3).step hb4); clear hb3 hb4 hgv hrv))
          go_upto_region 10 with (first
            | (go_at_call 36; refine (impl_fourBoxes lo hi md _ HM.out).mono ?_; rintro e w5 ⟨gq, rfl, hpq, hb5, hgq⟩; have HF5 := Lib.hid (HF4.out.step hb5); obtain ⟨cq1, cq2⟩ := hpq.2 n hn4; clear hb5 hgq hpq))
          have h5 : Below w5.heap.size w5 (w5.alloc (.cells #[cv (qlo lo md n), cv (qhi md hi n)] 66)) := (Below.refl _ _).alloc (Nat.le_refl _) _
          have ce1 : (w5.alloc (.cells #[cv (qlo lo md n), cv (qhi md hi n)] 66)).cell? ⟨w5.heap.size, 0, none⟩ = some (cv (qlo lo md n)) := by rw [cell_of_row _ _ _ _ _ _ (heap_alloc_new w5 _)]; rfl
          have ce2 : (w5.alloc (.cells #[cv (qlo lo md n), cv (qhi md hi n)] 66)).cell? ⟨w5.heap.size, 1, none⟩ = some (cv (qhi md hi n)) := by rw [cell_of_row _ _ _ _ _ _ (heap_alloc_new w5 _)]; rfl
          have HF6 := Lib.hid (HF5.out.step h5)
          generalize w5.alloc (.cells #[cv (qlo lo md n), cv (qhi md hi n)] 66) = w6 at ce1 ce2 HF6 ⊢
          clear h5 cc
          go_quiet (fail)
          have HF7 := Lib.hid (HF6.out.drewN nq)
          generalize w6.drewN nq = w7 at HF7 ⊢
          go_wp2_with fail
          go_roundg (t - (k + 1))
          case measure => have := HGK.out; omega
          case rel => exact ⟨k + 1, _, _, by omega, rfl, rfl, rfl, by go_num, HI, HF7⟩
    · have hs4 : k = t := by omega
      subst hs4
      have hN := HN1.out
      rw [Nat.sub_self] at hN
      have HNN : Hid (r = some (lo, hi)) := Lib.hid hN
      clear hN HN1
      go_wp2_with fail
      go_ret3
      exact ⟨resN_some HNN.out, HF1.out.b⟩
end Go.Proofs.Ytlhdgbiaiacpfaa
