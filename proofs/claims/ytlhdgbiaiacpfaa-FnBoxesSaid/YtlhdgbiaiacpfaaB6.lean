/- The counts of a box's quarters, the program's and the reference's. No condition but that the operations are valid and finite. -/
import Derived.Test.YtlhdgbiaiacpfaaB5
namespace Go.Proofs.Ytlhdgbiaiacpfaa
open Go.RowKit

/-- What is asked of the quarters of a box: m steps, l terms; md the middle, ns the counts. -/
structure Four (ys : List C) (low high md : C) (m : Nat) (ns : Nat → Int) : Prop where
  mid : midO low high = some md
  box : ∀ i, i < 4 → ∃ s f d, BoxOk ys (qlo low md i) (qhi md high i) m s ∧ Flo s f (ns i) ∧ IsBox (qlo low md i) (qhi md high i) d
def uptoI (f : Nat → Int) (n : Nat) : List Int := (List.range n).map f
theorem uptoI_length (f : Nat → Int) (n : Nat) : (uptoI f n).length = n := by simp [uptoI]
theorem uptoI_succ (f : Nat → Int) (n : Nat) : uptoI f (n + 1) = uptoI f n ++ [f n] := by simp [uptoI, List.range_succ]
/-- The counts of the quarters, or none. -/
def GivesI (b : Bool) (xs : List Int) (w : World) (e : Ending) (w' : World) : Prop :=
  Below w.heap.size w w' ∧ (b = true → ∃ g cap, e = .returned (.tuple #[.slice (some ⟨g, 0, none⟩) xs.length cap, .bool true]) ∧ w.heap.size ≤ g ∧ RdI w' g xs) ∧ (b = false → e = .returned (.tuple #[.slice none 0 0, .bool false]))
theorem givesI_false {b : Bool} {xs : List Int} {w w' : World} (h : b = false) (hb : Below w.heap.size w w') : GivesI b xs w (.returned (.tuple #[.slice none 0 0, .bool false])) w' :=
  ⟨hb, fun e => absurd (e.symm.trans h) (by decide), fun _ => rfl⟩
theorem givesI_true {b : Bool} {xs : List Int} {w w' : World} {g cap : Nat} (h : b = true) (hb : Below w.heap.size w w') (hg : w.heap.size ≤ g) (hr : RdI w' g xs) : GivesI b xs w (.returned (.tuple #[.slice (some ⟨g, 0, none⟩) xs.length cap, .bool true])) w' :=
  ⟨hb, fun _ => ⟨g, cap, rfl, hg, hr⟩, fun e => absurd (e.symm.trans h) (by decide)⟩

set_option maxRecDepth 100000 in
set_option maxHeartbeats 4000000 in
theorem impl_FourBoxes (g cap : Nat) (ys : List C) (low high md d : C) (m : Nat) (ns : Nat → Int) (w : World) (hr : Rd w g ys) (hv : VP ys) (h2 : 2 ≤ ys.length) (hm : 4 ≤ m) (hm2 : m ≤ 64) (hbox : IsBox low high d) (h : Four ys low high md m ns) :
    Calls Try.prog 12 #[.agg #[.slice (some ⟨g, 0, none⟩) ys.length cap], cv low, cv high, .int .i64 m] w (GivesI (allTo (fun i => okN (ns i) ys.length) 4) (uptoI ns 4) w) := by
  obtain ⟨hmid, hbx⟩ := h
  have HBX := Lib.hid hbx
  have HV := Lib.hid hv
  have HR := Lib.hid hr
  clear hv hr hbx
  go_enter Try.func12, Try.ntmps12
  go_wp2_with (first
    | (go_at_call 24; refine (impl_isRooted g cap ys _ (HR.out.alloc _) HV.out h2).mono ?_; rintro e w1 ⟨rfl, hb1⟩; have hc1 := box_cell hb1; have hr1 := (HR.out.alloc _).below hb1; have hB1 := Lib.hid (below_alloc hb1); clear hb1)
    | (go_at_call 25; refine (impl_isBox low high d _ hbox).mono ?_; rintro e w2 ⟨rfl, hb2⟩; have hc2 := kc hb2 hc1; have hr2 := hr1.below hb2; have hB2 := Lib.hid (below_trans hB1.out hb2); clear hb2)
    | (go_at_call 26; refine (impl_within m 4 64 _ (by omega) (by omega)).mono ?_; rintro e w' ⟨rfl, rfl⟩)
    | (go_at_call 36; refine (impl_fourBoxes low high md _ hmid).mono ?_; rintro e w3 ⟨gq, rfl, hpq, hb3, hgq⟩))
  have HS0 : Hid (Below w.heap.size w w3) := Lib.hid (below_trans (below_trans hB2.out ((Below.refl _ _).alloc (Nat.le_refl _) (.cells #[] 2))) hb3)
  have HO0 : Hid (OwnI w3 w2.heap.size (.slice (some ⟨w2.heap.size, 0, none⟩) 0 0) []) := Lib.hid ((OwnI.made w2 w2.heap.size (Nat.le_refl _)).below hb3)
  have HC0 : Hid (w3.cell? ⟨w.heap.size, 0, none⟩ = some (.slice (some ⟨g, 0, none⟩) ys.length cap)) := Lib.hid (kc hb3 (kca hc2 _))
  have HR0 : Hid (Rd w3 g ys) := Lib.hid ((hr2.alloc _).below hb3)
  have HPQ : Hid (Pairs w3 gq low md high) := Lib.hid hpq
  have HNE : Hid (∀ n c, Value.slice (some ⟨w2.heap.size, 0, none⟩) 0 0 ≠ .slice (some ⟨gq, 0, none⟩) n c) := Lib.hid (by intro n c e; injection e with e1 _ _; injection e1 with e1; injection e1 with e1 _ _; simp at hgq; omega)
  have HW3 : Hid (w2.heap.size ≤ w3.heap.size) := Lib.hid (by have := hb3.size; simp at this; omega)
  obtain ⟨B, hB⟩ : ∃ B, B = w2.heap.size := ⟨_, rfl⟩
  have HGB : Hid (g < B) := Lib.hid (by rw [hB]; exact hr2.1)
  have HPB : Hid (w.heap.size < B) := Lib.hid (by rw [hB]; exact World.block_lt_of_cell? w2 _ hc2)
  rw [← hB] at HO0 HNE HW3 ⊢
  clear hpq hgq hb3 hB hc1 hc2 hr1 hr2 hB1 hB2
  go_loopg [10, 34] (4 : Nat) (fun gk vs i wr => ∃ k : Nat, k ≤ 4 ∧ gk = 4 - k ∧ i = .int .i64 k ∧ Hid (allTo (fun i => okN (ns i) ys.length) k = true) ∧ Hid (OwnI wr B vs (uptoI ns k)) ∧ Hid (∀ n c, vs ≠ .slice (some ⟨gq, 0, none⟩) n c) ∧ Hid (Pairs wr gq low md high) ∧ Hid (wr.cell? ⟨w.heap.size, 0, none⟩ = some (.slice (some ⟨g, 0, none⟩) ys.length cap)) ∧ Hid (Rd wr g ys) ∧ Hid (Below w.heap.size w wr) ∧ Hid (B ≤ wr.heap.size))
  case atStart => exact ⟨0, by omega, by omega, rfl, Lib.hid rfl, HO0, HNE, HPQ, HC0, HR0, HS0, HW3⟩
  case round =>
    obtain ⟨k, hk, hgk, rfl, HA, HO, HN, HPr, HC, HRy, HB, HW⟩ := hrel
    obtain ⟨wo, rfl⟩ : ∃ wo : World, wo = wr := ⟨_, rfl⟩
    have HGK := Lib.hid hgk
    clear hgk
    by_cases hlt : k < 4
    · have hdec : decide ((k : Int) < 4) = true := by simp; omega
      have hk0 : (0 : Int) ≤ k := by omega
      have hk4 : (k : Int) < 4 := by omega
      obtain ⟨cq1, cq2⟩ := HPr.out.2 k hlt
      have ccc := HC.out
      go_upto_region 7 with (fail)
      obtain ⟨s, f, dd, hb, hf, hx⟩ := HBX.out k hlt
      have HBk := Lib.hid hb
      have HFk := Lib.hid hf
      have h5 : Below wo.heap.size wo (wo.alloc (.cells #[cv (qlo low md k), cv (qhi md high k)] 66)) := (Below.refl _ _).alloc (Nat.le_refl _) _
      have ce1 : (wo.alloc (.cells #[cv (qlo low md k), cv (qhi md high k)] 66)).cell? ⟨wo.heap.size, 0, none⟩ = some (cv (qlo low md k)) := by rw [cell_of_row _ _ _ _ _ _ (heap_alloc_new wo _)]; rfl
      have ce2 : (wo.alloc (.cells #[cv (qlo low md k), cv (qhi md high k)] 66)).cell? ⟨wo.heap.size, 1, none⟩ = some (cv (qhi md high k)) := by rw [cell_of_row _ _ _ _ _ _ (heap_alloc_new wo _)]; rfl
      have HO5 := Lib.hid (HO.out.below h5)
      have HP5 := Lib.hid (HPr.out.below h5)
      have c5 := kc h5 HC.out
      have HR5 := Lib.hid (HRy.out.below h5)
      have HB5 := Lib.hid (below_trans HB.out h5)
      have HW5 := Lib.hid (Nat.le_trans HW.out h5.size)
      generalize wo.alloc (.cells #[cv (qlo low md k), cv (qhi md high k)] 66) = w5 at ce1 ce2 HO5 HP5 c5 HR5 HB5 HW5 ⊢
      clear h5 hb hf hx cq1 cq2 ccc HO HPr HC HRy HB HW
      cases hbk : okN (ns k) ys.length with
      | false =>
        have HFA : Hid (allTo (fun i => okN (ns i) ys.length) 4 = false) := Lib.hid (allTo_false (bs := fun i => okN (ns i) ys.length) hbk 4 hlt)
        have Y1 := Lib.hid (fun W h => by have := impl_RootsOfBox g cap ys (qlo low md k) (qhi md high k) m s f (ns k) W h HV.out h2 hm hm2 HBk.out HFk.out; rw [hbk] at this; exact this)
        clear hbk
        go_wp2_with (go_at_call 8; refine (Y1.out _ HR5.out).mono ?_; rintro e w6 ⟨rfl, hb6⟩)
        go_ret2
        exact givesI_false HFA.out (below_trans HB5.out hb6)
      | true =>
        have HT : Hid (allTo (fun i => okN (ns i) ys.length) (k + 1) = true) := Lib.hid (by show (allTo (fun i => okN (ns i) ys.length) k && okN (ns k) ys.length) = true; rw [HA.out, hbk]; rfl)
        have Y1 := Lib.hid (fun W h => by have := impl_RootsOfBox g cap ys (qlo low md k) (qhi md high k) m s f (ns k) W h HV.out h2 hm hm2 HBk.out HFk.out; rw [hbk] at this; exact this)
        clear hbk
        go_wp2_with (first
          | (go_at_call 8; refine (Y1.out _ HR5.out).mono ?_; rintro e w6 ⟨rfl, hb6⟩; have HO6 := Lib.hid (HO5.out.below hb6); have HP6 := Lib.hid (HP5.out.below hb6); have HC6 := Lib.hid (kc hb6 c5); have HR6 := Lib.hid (HR5.out.below hb6); have HB6 := Lib.hid (below_trans HB5.out hb6); have HW6 := Lib.hid (Nat.le_trans HW5.out hb6.size); clear hb6)
          | (at_builtin; refine appendI rfl (.tmp 50) (.tmp 52) rfl B _ (uptoI ns k) rfl HO6.out (ns k) rfl (by rw [uptoI_length]; omega) HW6.out ?_; intro v' w7 hown7 hb7 hs7; have HO7 : Hid (OwnI w7 B v' (uptoI ns (k + 1))) := Lib.hid (by rw [uptoI_succ]; exact hown7); have HP7 := Lib.hid (HP6.out.same hb7.size (hs7 gq HP6.out.1 HN.out)); have HC7 := Lib.hid ((hb7.cell (p := ⟨w.heap.size, 0, none⟩) HPB.out).trans HC6.out); have HR7 := Lib.hid (HR6.out.below' hb7 HGB.out); have HB7 := Lib.hid (HB6.out.trans (hb7.mono (Nat.le_of_lt HPB.out))); have HW7 := Lib.hid (Nat.le_trans HW6.out hb7.size); have HN7 := Lib.hid (HO7.out.ne (by rw [uptoI_succ]; simp) HP7.out); clear hown7 hb7 hs7))
        go_roundg (4 - (k + 1))
        case measure => have := HGK.out; omega
        case rel => exact ⟨k + 1, by omega, rfl, by go_num, HT, HO7, HN7, HP7, HC7, HR7, HB7, HW7⟩
    · have hs4 : k = 4 := by omega
      subst hs4
      obtain ⟨gv, capv, rfl, hgv, hrv, hcv⟩ := HO.out.rd
      go_wp2_with fail
      go_ret2
      exact givesI_true HA.out HB.out (Nat.le_trans (Nat.le_of_lt HPB.out) hgv) hrv
end Go.Proofs.Ytlhdgbiaiacpfaa
