/- The box that is narrowed, the reference's; two numbers that are the same. No condition but that the operations are valid and finite. -/
import Derived.Test.YtlhdgbiaiacpfaaB8
namespace Go.Proofs.Ytlhdgbiaiacpfaa
open Go.RowKit

theorem NF.rows {w : World} {bp g cap : Nat} {ys : List C} {W : World} (h : NF w bp g cap ys W) {W' : World} (hb : Below W.heap.size W W') : NF w bp g cap ys W' := h.step hb

set_option maxRecDepth 100000 in
set_option maxHeartbeats 4000000 in
theorem spec_NarrowBox (g cap : Nat) (ys : List C) (low high d : C) (m t : Nat) (r : Option (C × C)) (w : World) (hr : Rd w g ys) (hv : VP ys) (h2 : 2 ≤ ys.length) (hm : 4 ≤ m) (hm2 : m ≤ 64) (ht : t ≤ 20) (hbox : IsBox low high d) (h : Nrw ys m t low high r) :
    Calls Try.prog 14 #[.agg #[.slice (some ⟨g, 0, none⟩) ys.length cap], cv low, cv high, .int .i64 m, .int .i64 t] w fun e w' => e = .returned (resN r) ∧ Below w.heap.size w w' := by
  have HN := Lib.hid h
  have HV := Lib.hid hv
  have HR := Lib.hid hr
  have hc : (w.alloc (.cells #[.slice (some ⟨g, 0, none⟩) ys.length cap] 28)).cell? ⟨w.heap.size, 0, none⟩ = some (.slice (some ⟨g, 0, none⟩) ys.length cap) := by rw [cell_of_row _ _ _ _ _ _ (heap_alloc_new w _)]; rfl
  have HF0 : Hid (NF w w.heap.size g cap ys (w.alloc (.cells #[.slice (some ⟨g, 0, none⟩) ys.length cap] 28))) := Lib.hid ⟨hc, hr.alloc _, (Below.refl _ _).alloc (Nat.le_refl _) _⟩
  clear hv hr h
  go_enter Try.func14, Try.ntmps14
  go_wp2_with (first
    | (go_at_call 34; (with_reducible refine (spec_l05Boxed w.heap.size g cap ys low high d m _ hc (HR.out.alloc _) HV.out h2 hbox hm hm2).mono ?_); rintro e w' ⟨rfl, rfl⟩)
    | (go_at_call 37; (with_reducible refine (spec_l00In t 0 20 _ (by omega) (by omega)).mono ?_); rintro e w' ⟨rfl, rfl⟩))
  generalize w.alloc (.cells #[.slice (some ⟨g, 0, none⟩) ys.length cap] 28) = w2 at HF0 ⊢
  clear hc
  obtain ⟨bp, hbp⟩ : ∃ bp, bp = w.heap.size := ⟨_, rfl⟩
  have HF : Hid (NF w bp g cap ys w2) := Lib.hid (by rw [hbp]; exact HF0.out)
  rw [← hbp]
  clear HF0 hbp
  go_loopg [1, 2, 4] (t : Nat) (fun gk a b i wr => ∃ (k : Nat) (lo hi : C), k ≤ t ∧ gk = k ∧ a = cv lo ∧ b = cv hi ∧ i = .int .i64 k ∧ Hid (Nrw ys m k lo hi r) ∧ Hid (NF w bp g cap ys wr))
  case atStart => exact ⟨t, low, high, by omega, by omega, rfl, rfl, rfl, HN, HF⟩
  case round =>
    obtain ⟨k, lo, hi, hk, hgk, rfl, rfl, rfl, HN1, HF1⟩ := hrel
    obtain ⟨wo, rfl⟩ : ∃ wo : World, wo = wr := ⟨_, rfl⟩
    have HGK := Lib.hid hgk
    clear hgk HN HF
    by_cases hlt : 0 < k
    · obtain ⟨t1, rfl⟩ : ∃ t1, k = t1 + 1 := ⟨k - 1, by omega⟩
      have hdec : decide ((0 : Int) < ((t1 + 1 : Nat) : Int)) = true := by simp
      have hwr : IntKind.i64.wrap (((t1 + 1 : Nat) : Int) - 1) = (t1 : Int) := by rw [IntWalk.i64_in _ (by omega)]; omega
      obtain ⟨d1, md, ns, hx1, hfour, hif⟩ := HN1.out
      have hmid := hfour.mid
      have HX1 := Lib.hid hx1
      have HQ := Lib.hid hfour
      have HM := Lib.hid hmid
      clear hx1 hfour hmid HN1
      cases hA : allTo (fun i => okN (ns i) ys.length) 4 with
      | false =>
        rw [hA, if_neg (by simp)] at hif
        have HI := Lib.hid hif
        have HAA := Lib.hid hA
        clear hif hA
        go_wp2_with (go_at_call 35; refine (spec_l05Four bp g cap ys lo hi md m ns _ HF1.out.c HF1.out.ry HV.out hm hm2 HQ.out).mono ?_; rintro e w3 ⟨hb3, -, hf3⟩; obtain rfl := hf3 HAA.out; clear hf3)
        go_ret3
        exact ⟨resN_none HI.out, below_trans HF1.out.b hb3⟩
      | true =>
        obtain ⟨q1, q2⟩ := fp_lt ns 4
        have HAA := Lib.hid hA
        have HIF := Lib.hid hif
        have HQ1 := Lib.hid q1
        have HQ2 := Lib.hid q2
        clear hif hA q1 q2
        go_upto_region 11 with (first
          | (go_at_call 35; refine (spec_l05Four bp g cap ys lo hi md m ns _ HF1.out.c HF1.out.ry HV.out hm hm2 HQ.out).mono ?_; rintro e w3 ⟨hb3, ht3, -⟩; simp only [uptoI_length] at ht3; obtain ⟨gv, capv, rfl, hgv, hrv⟩ := ht3 HAA.out; clear ht3; have HF3 := Lib.hid (HF1.out.step hb3); clear hb3)
          | (go_at_call 38; refine (spec_l05Quarters lo hi md _ HM.out).mono ?_; rintro e w4 ⟨g1, g2, rfl, hr1, hr2, hb4⟩; have HF4 := Lib.hid (HF3.out.step hb4); have HRV := Lib.hid (hrv.below hb4); have HR1 := Lib.hid hr1; have HR2 := Lib.hid hr2; clear hb4 hrv hr1 hr2))
        go_loopg [17, 50] (4 : Nat) (fun gk2 a i wx => ∃ j : Nat, j ≤ 4 ∧ gk2 = 4 - j ∧ a = .int .i64 (fp ns j) ∧ i = .int .i64 j ∧ Hid (NF w bp g cap ys wx) ∧ Hid (RdI wx gv (uptoI ns 4)) ∧ Hid (Rd wx g1 (lows lo md)) ∧ Hid (Rd wx g2 (highs md hi)))
        case atStart => exact ⟨0, by omega, by omega, rfl, rfl, HF4, HRV, HR1, HR2⟩
        case round =>
          obtain ⟨j, hj, hgj, rfl, rfl, HF5, HR5, HS1, HS2⟩ := hrel
          obtain ⟨wq, rfl⟩ : ∃ wq : World, wq = wr := ⟨_, rfl⟩
          have HGJ := Lib.hid hgj
          obtain ⟨z1, z2⟩ := fp_lt ns j
          have hwj : IntKind.i64.wrap (fp ns j) = fp ns j := IntWalk.i64_in _ (by omega)
          have HZ1 := Lib.hid z1
          have HZ2 := Lib.hid z2
          clear hgj HF4 HRV HR1 HR2 z1 z2
          by_cases hl4 : j < 4
          · have hd4 : decide ((j : Int) < 4) = true := by simp; omega
            have hj0 : (0 : Int) ≤ j := by omega
            have hj4 : (j : Int) < 4 := by omega
            have cx : wq.cell? ⟨gv, j, none⟩ = some (.int .i64 (ns j)) := by have := HR5.out.2 j (by rw [uptoI_length]; exact hl4); rwa [uptoI_at hl4] at this
            by_cases hp : 0 < ns j
            · have hdp : decide (0 < ns j) = true := decide_eq_true hp
              by_cases hn : fp ns j < 0
              · have hdn : decide (fp ns j < 0) = true := decide_eq_true hn
                have HE : Hid ((j : Int) = fp ns (j + 1)) := Lib.hid (by rw [fp, if_pos ⟨hn, hp⟩])
                clear hp hn
                go_wp2_with fail
                go_roundg (4 - (j + 1))
                case measure => have := HGJ.out; omega
                case rel => exact ⟨j + 1, by omega, rfl, by rw [← HE.out], by go_num, HF5, HR5, HS1, HS2⟩
              · have hdn : decide (fp ns j < 0) = false := decide_eq_false hn
                have HE : Hid (fp ns j = fp ns (j + 1)) := Lib.hid (by rw [fp, if_neg (fun h => hn h.1)])
                clear hp hn
                go_wp2_with fail
                go_roundg (4 - (j + 1))
                case measure => have := HGJ.out; omega
                case rel => exact ⟨j + 1, by omega, rfl, by rw [← HE.out], by go_num, HF5, HR5, HS1, HS2⟩
            · have hdp : decide (0 < ns j) = false := decide_eq_false hp
              have HE : Hid (fp ns j = fp ns (j + 1)) := Lib.hid (by rw [fp, if_neg (fun h => hp h.2)])
              clear hp
              go_wp2_with fail
              go_roundg (4 - (j + 1))
              case measure => have := HGJ.out; omega
              case rel => exact ⟨j + 1, by omega, rfl, by rw [← HE.out], by go_num, HF5, HR5, HS1, HS2⟩
          · obtain rfl : j = 4 := by omega
            obtain ⟨p, hp⟩ : ∃ p, p = fp ns 4 := ⟨_, rfl⟩
            have HPP := Lib.hid hp
            by_cases hp0 : p < 0
            · have hd0 : decide (p < 0) = true := decide_eq_true hp0
              have HI : Hid (r = none) := Lib.hid (by have := HIF.out; rwa [if_neg (by rw [← hp]; omega)] at this)
              rw [← hp] at hwj ⊢
              clear hp hp0
              go_wp2_with fail
              go_ret3
              exact ⟨resN_none HI.out, HF5.out.b⟩
            · obtain ⟨n, rfl⟩ := Int.eq_ofNat_of_zero_le (by omega : 0 ≤ p)
              have hn4 : n < 4 := by have := HQ1.out; omega
              have HI : Hid (Nrw ys m t1 (qlo lo md n) (qhi md hi n) r) := Lib.hid (by have := HIF.out; rwa [if_pos ⟨HAA.out, by rw [← hp]; omega⟩, ← hp] at this)
              have hd0 : decide ((n : Int) < 0) = false := decide_eq_false hp0
              have hn0 : (0 : Int) ≤ n := by omega
              have hn4' : (n : Int) < 4 := by omega
              have c1 : wq.cell? ⟨g1, n, none⟩ = some (cv (qlo lo md n)) := by have := HS1.out.2 n (by simp [lows]; omega); rwa [lows_at lo md hn4] at this
              have c2 : wq.cell? ⟨g2, n, none⟩ = some (cv (qhi md hi n)) := by have := HS2.out.2 n (by simp [highs]; omega); rwa [highs_at md hi hn4] at this
              rw [← hp] at hwj ⊢
              clear hp hp0
              go_wp2_with fail
              go_roundg t1
              case measure => have := HGK.out; omega
              case rel => exact ⟨t1, _, _, by omega, rfl, rfl, rfl, rfl, HI, HF5⟩
    · have hs4 : k = 0 := by omega
      subst hs4
      have HNN : Hid (r = some (lo, hi)) := Lib.hid HN1.out
      clear HN1
      go_wp2_with fail
      go_ret3
      exact ⟨resN_some HNN.out, HF1.out.b⟩
end Go.Proofs.Ytlhdgbiaiacpfaa
