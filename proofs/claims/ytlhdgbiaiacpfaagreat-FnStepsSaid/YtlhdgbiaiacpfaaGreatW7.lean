/- Contracts of what a polynomial misses at a number, the program's and the reference's. No condition but that the operations are valid and finite. -/
import Derived.Test.YtlhdgbiaiacpfaaGreatW6
namespace Go.Proofs.YtlhdgbiaiacpfaaGreat
open Go.RowKit

theorem impl_checked (x : Nat) (h : Fin x) (w : World) :
    Calls Tryz.prog 67 #[.float .f32 x] w fun e w' => e = .returned (.tuple #[.float .f32 x, .bool true]) ∧ w = w' := by
  go_enter Tryz.func67, Tryz.ntmps67
  go_wp2_with (go_at_call 66; refine (impl_IsFinite x h _).mono ?_; rintro e w' ⟨rfl, rfl⟩)
  go_ret2
  exact ⟨rfl, rfl⟩
theorem spec_l02Number (x : Nat) (h : Fin x) (w : World) :
    Calls Tryz.prog 94 #[.float .f32 x] w fun e w' => e = .returned (.tuple #[.float .f32 x, .bool true]) ∧ w = w' := by
  go_enter Tryz.func94, Tryz.ntmps94
  go_wp2_with (go_at_call 118; refine (spec_l01Finite x h _).mono ?_; rintro e w' ⟨rfl, rfl⟩)
  go_ret2
  exact ⟨rfl, rfl⟩
theorem spec_l02Above (x : Nat) (b : Bool) (h : Fin x) (hb : (FloatKind.f32.format.order x 0 == some .gt) = b) (w : World) :
    Calls Tryz.prog 81 #[.float .f32 x] w fun e w' => e = .returned (.bool b) ∧ w = w' := by
  go_enter Tryz.func81, Tryz.ntmps81
  go_wp2_with (go_at_call 118; refine (spec_l01Finite x h _).mono ?_; rintro e w' ⟨rfl, rfl⟩)
  go_ret
  exact ⟨rfl, rfl⟩

/-- p times l, k times. -/
def powO (p l : Nat) : Nat → Option Nat
  | 0 => some p
  | k + 1 => (powO p l k).bind fun q => mul32 q l
/-- The sum over the first k terms. -/
def sumO (xs : List C) (l : Nat) : Nat → Option Nat
  | 0 => some 0
  | k + 1 => (sumO xs l k).bind fun s => (longO (at_ xs k)).bind fun p => (powO p l k).bind fun q => add32 s q
def allO (xs : List C) (z : C) : Option Nat := (longO z).bind fun l => sumO xs l xs.length

theorem powO_some {p l r : Nat} : ∀ {n j : Nat}, powO p l n = some r → j ≤ n → ∃ v, powO p l j = some v := by
  intro n j
  induction n generalizing r with
  | zero => intro h hj; obtain rfl : j = 0 := by omega
            exact ⟨r, h⟩
  | succ n ih =>
    intro h hj
    by_cases e : j = n + 1
    · subst e; exact ⟨r, h⟩
    · simp only [powO, Option.bind_eq_some_iff] at h
      obtain ⟨v, hv, _⟩ := h
      exact ih hv (by omega)
theorem powO_succ {p l r n j : Nat} (h : powO p l n = some r) (hj : j < n) {v : Nat} (hv : powO p l j = some v) : ∃ u, mul32 v l = some u ∧ powO p l (j + 1) = some u := by
  obtain ⟨u, hu⟩ := powO_some h (j := j + 1) (by omega)
  have hu' := hu
  simp only [powO, hv, Option.bind_some] at hu'
  exact ⟨u, hu', hu⟩
theorem sumO_some {xs : List C} {l r : Nat} : ∀ {n j : Nat}, sumO xs l n = some r → j ≤ n → ∃ v, sumO xs l j = some v := by
  intro n j
  induction n generalizing r with
  | zero => intro h hj; obtain rfl : j = 0 := by omega
            exact ⟨r, h⟩
  | succ n ih =>
    intro h hj
    by_cases e : j = n + 1
    · subst e; exact ⟨r, h⟩
    · simp only [sumO, Option.bind_eq_some_iff] at h
      obtain ⟨v, hv, _⟩ := h
      exact ih hv (by omega)
theorem sumO_succ {xs : List C} {l r n j : Nat} (h : sumO xs l n = some r) (hj : j < n) {v : Nat} (hv : sumO xs l j = some v) :
    ∃ p q u, longO (at_ xs j) = some p ∧ powO p l j = some q ∧ add32 v q = some u ∧ sumO xs l (j + 1) = some u := by
  obtain ⟨u, hu⟩ := sumO_some h (j := j + 1) (by omega)
  have hu' := hu
  simp only [sumO, hv, Option.bind_some, Option.bind_eq_some_iff] at hu'
  obtain ⟨p, hp, q, hq, ha⟩ := hu'
  exact ⟨p, q, u, hp, hq, ha, hu⟩

/-- What is asked of a polynomial and a number for 'MissAt'. -/
structure Miss (xs : List C) (z v : C) (l lv a q : Nat) (b : Bool) : Prop where
  horner : hornerO xs z = some v
  fin : FinC v
  finz : FinC z
  long : longO z = some l
  longv : longO v = some lv
  all : sumO xs l xs.length = some a
  fina : Fin a
  above : FloatKind.f32.format.order a 0 = some (if b then .gt else .eq)
  quo : b = true → div32 lv a = some q ∧ Fin q

theorem ret_ff {a b : Nat} (h : a = b) : Ending.returned (.tuple #[.float .f32 a, .bool true]) = .returned (.tuple #[.float .f32 b, .bool true]) := by rw [h]

set_option maxHeartbeats 1000000 in
theorem impl_MissAt (g cap : Nat) (xs : List C) (z v : C) (l lv a q : Nat) (b : Bool) (w : World) (hr : Rd w g xs) (hv : VP xs) (h2 : 2 ≤ xs.length) (hm : Miss xs z v l lv a q b) :
    Calls Tryz.prog 21 #[.agg #[.slice (some ⟨g, 0, none⟩) xs.length cap], cv z] w fun e w' => e = .returned (.tuple #[.float .f32 (if b then q else 0), .bool b]) ∧ Below w.heap.size w w' := by
  obtain ⟨k1, k2, k3, k4, k5, k6, k7, k8, k10⟩ := hm
  have hn := hv.most
  have K1 := Lib.hid k1
  have K6 := Lib.hid k6
  have K4 := Lib.hid k4
  have K5 := Lib.hid k5
  have K8 := Lib.hid k8
  clear k1 k6 k4 k5 k8
  go_enter Tryz.func21, Tryz.ntmps21
  go_wp2_with (first
    | (go_at_call 38; refine (impl_isRooted g cap xs _ (hr.alloc _) hv h2).mono ?_; rintro e w1 ⟨rfl, hb1⟩; have hc1 := box_cell hb1; have hr1 := (hr.alloc _).below hb1)
    | (go_at_call 25; refine (impl_PolyAt g cap xs z v w1 hr1 hv k3 K1.out k2).mono ?_; rintro e w2 ⟨rfl, hb2⟩; have hc2 := (hb2.cell (p := ⟨w.heap.size, 0, none⟩) (size_box hb1)).trans hc1; have hr2 := hr1.below hb2))
  have HR := Lib.hid hr2
  have HB := below_trans (below_alloc hb1) hb2
  clear hr hr1 hr2 hb1 hb2 hc1 K1
  go_loop [8, 9, 10, 11, 26, 34] (fun s _ _ _ i _ => ∃ (k u : Nat), k ≤ xs.length ∧ Hid (sumO xs l k = some u) ∧ s = .float .f32 u ∧ i = .int .i64 k) (fun _ _ _ _ i _ => xs.length - (intOf i).toNat)
  case atStart => exact ⟨0, 0, Nat.zero_le _, Lib.hid rfl, rfl, rfl⟩
  case round =>
    obtain ⟨k, u, hk, hu, rfl, rfl⟩ := hrel
    by_cases hlt : k < xs.length
    · obtain ⟨p, q', u', hp, hq, ha, hs⟩ := sumO_succ K6.out hlt hu.out
      have hx := HR.out.2 k hlt
      have HS := Lib.hid hs
      have HQ := Lib.hid hq
      have HP := Lib.hid hp
      unfold add32 at ha
      clear hs hu hq hp
      go_wp2_with (go_at_call 58; refine (impl_LongOf _ p HP.out _).mono ?_; rintro e w' ⟨rfl, rfl⟩)
      go_loop [11, 34] (fun s i => ∃ (j t : Nat), j ≤ k ∧ Hid (powO p l j = some t) ∧ s = .float .f32 t ∧ i = .int .i64 j) (fun _ i => k - (intOf i).toNat)
      case atStart => exact ⟨0, p, Nat.zero_le _, Lib.hid rfl, rfl, rfl⟩
      case round =>
        obtain ⟨j, t, hj, ht, rfl, rfl⟩ := hrel
        by_cases hlt2 : j < k
        · obtain ⟨t', ht', hs'⟩ := powO_succ HQ.out hlt2 ht.out
          have HS' := Lib.hid hs'
          unfold mul32 at ht'
          clear hs' ht
          go_wp2_with (go_at_call 58; refine (impl_LongOf z l K4.out _).mono ?_; rintro e w' ⟨rfl, rfl⟩)
          go_round
          case rel => exact ⟨j + 1, t', by omega, HS', rfl, by go_num⟩
          case measure => simp [intOf]; omega
        · have e : j = k := by omega
          have e2 : t = q' := Option.some.inj (by rw [← ht.out, e]; exact HQ.out)
          subst e2
          clear ht e
          go_wp2
          go_round
          case rel => exact ⟨k + 1, u', by omega, HS, rfl, by go_num⟩
          case measure => simp [intOf]; omega
    · have e : k = xs.length := by omega
      have e2 : u = a := Option.some.inj (by rw [← hu.out, e]; exact K6.out)
      subst e2
      clear hu e
      cases b with
      | false =>
        have k8 : FloatKind.f32.format.order u 0 = some .eq := K8.out
        go_wp2_with (go_at_call 66; refine (impl_IsFinite u k7 _).mono ?_; rintro e w' ⟨rfl, rfl⟩)
        all_goals (go_ret2; exact ⟨rfl, HB⟩)
      | true =>
        have k8 : FloatKind.f32.format.order u 0 = some .gt := K8.out
        obtain ⟨k11, k12⟩ := k10 rfl
        unfold div32 at k11
        clear k10
        go_wp2_with (first
          | (go_at_call 66; refine (impl_IsFinite u k7 _).mono ?_; rintro e w' ⟨rfl, rfl⟩)
          | (go_at_call 58; refine (impl_LongOf v lv K5.out _).mono ?_; rintro e w' ⟨rfl, rfl⟩)
          | (go_at_call 67; refine (impl_checked q k12 _).mono ?_; rintro e w' ⟨rfl, rfl⟩))
        all_goals (go_ret2; exact ⟨rfl, HB⟩)

set_option maxHeartbeats 1000000 in
theorem spec_l05Miss (bp g cap : Nat) (xs : List C) (z v : C) (l lv a q : Nat) (b : Bool) (w : World) (hp : w.cell? ⟨bp, 0, none⟩ = some (.slice (some ⟨g, 0, none⟩) xs.length cap)) (hbp : bp < w.heap.size) (hr : Rd w g xs) (hv : VP xs) (hm : Miss xs z v l lv a q b) :
    Calls Tryz.prog 41 #[.pointer (some ⟨bp, 0, none⟩), cv z] w fun e w' => e = .returned (.tuple #[.float .f32 (if b then q else 0), .bool b]) ∧ Below w.heap.size w w' := by
  obtain ⟨k1, k2, k3, k4, k5, k6, k7, k8, k10⟩ := hm
  have hn := hv.most
  have K1 := Lib.hid k1
  have K6 := Lib.hid k6
  have K4 := Lib.hid k4
  have K5 := Lib.hid k5
  have K8 := Lib.hid k8
  clear k1 k6 k4 k5 k8
  go_enter Tryz.func41, Tryz.ntmps41
  go_wp2_with (first
    | (go_at_call 20; refine (spec_PolyAt g cap xs z v w hr hv k3 K1.out k2).mono ?_; rintro e w2 ⟨rfl, hb2⟩; have hc2 := (hb2.cell (p := ⟨bp, 0, none⟩) hbp).trans hp; have hr2 := hr.below hb2)
    | (go_at_call 60; refine (spec_l01Long z l K4.out _).mono ?_; rintro e w' ⟨rfl, rfl⟩))
  have HR := Lib.hid hr2
  have HB := hb2
  clear hr hr2 hb2 K1 hp
  go_loop [9, 10, 11, 12, 30] (fun s _ _ _ i => ∃ (k u : Nat), k ≤ xs.length ∧ Hid (sumO xs l k = some u) ∧ s = .float .f32 u ∧ i = .int .i64 k) (fun _ _ _ _ i => xs.length - (intOf i).toNat)
  case atStart => exact ⟨0, 0, Nat.zero_le _, Lib.hid rfl, rfl, rfl⟩
  case round =>
    obtain ⟨k, u, hk, hu, rfl, rfl⟩ := hrel
    by_cases hlt : k < xs.length
    · obtain ⟨p, q', u', hp, hq, ha, hs⟩ := sumO_succ K6.out hlt hu.out
      have hx := HR.out.2 k hlt
      have HS := Lib.hid hs
      have HQ := Lib.hid hq
      have HP := Lib.hid hp
      unfold add32 at ha
      clear hs hu hq hp
      go_wp2_with (go_at_call 60; refine (spec_l01Long _ p HP.out _).mono ?_; rintro e w' ⟨rfl, rfl⟩)
      go_loop [11, 12] (fun s i => ∃ (j t : Nat), j ≤ k ∧ Hid (powO p l j = some t) ∧ s = .float .f32 t ∧ i = .int .i64 j) (fun _ i => k - (intOf i).toNat)
      case atStart => exact ⟨0, p, Nat.zero_le _, Lib.hid rfl, rfl, rfl⟩
      case round =>
        obtain ⟨j, t, hj, ht, rfl, rfl⟩ := hrel
        by_cases hlt2 : j < k
        · obtain ⟨t', ht', hs'⟩ := powO_succ HQ.out hlt2 ht.out
          have HS' := Lib.hid hs'
          unfold mul32 at ht'
          clear hs' ht
          go_wp2
          go_round
          case rel => exact ⟨j + 1, t', by omega, HS', rfl, by go_num⟩
          case measure => simp [intOf]; omega
        · have e : j = k := by omega
          have e2 : t = q' := Option.some.inj (by rw [← ht.out, e]; exact HQ.out)
          subst e2
          clear ht e
          go_wp2
          go_round
          case rel => exact ⟨k + 1, u', by omega, HS, rfl, by go_num⟩
          case measure => simp [intOf]; omega
    · have e : k = xs.length := by omega
      have e2 : u = a := Option.some.inj (by rw [← hu.out, e]; exact K6.out)
      subst e2
      clear hu e
      cases b with
      | false =>
        have k8 : (FloatKind.f32.format.order u 0 == some .gt) = false := by rw [K8.out]; rfl
        have H8 := Lib.hid k8
        clear k8
        go_wp2_with (go_at_call 81; refine (spec_l02Above u false k7 H8.out _).mono ?_; rintro e w' ⟨rfl, rfl⟩)
        all_goals (go_ret2; exact ⟨rfl, HB⟩)
      | true =>
        have k8 : (FloatKind.f32.format.order u 0 == some .gt) = true := by rw [K8.out]; rfl
        have H8 := Lib.hid k8
        obtain ⟨k11, k12⟩ := k10 rfl
        unfold div32 at k11
        clear k10 k8
        go_wp2_with (first
          | (go_at_call 81; refine (spec_l02Above u true k7 H8.out _).mono ?_; rintro e w' ⟨rfl, rfl⟩)
          | (go_at_call 60; refine (spec_l01Long v lv K5.out _).mono ?_; rintro e w' ⟨rfl, rfl⟩)
          | (go_at_call 94; refine (spec_l02Number q k12 _).mono ?_; rintro e w' ⟨rfl, rfl⟩))
        all_goals (go_ret2; exact ⟨rfl, HB⟩)

theorem spec_MissAt (g cap : Nat) (xs : List C) (z v : C) (l lv a q : Nat) (b : Bool) (w : World) (hr : Rd w g xs) (hv : VP xs) (h2 : 2 ≤ xs.length) (hm : Miss xs z v l lv a q b) :
    Calls Tryz.prog 22 #[.agg #[.slice (some ⟨g, 0, none⟩) xs.length cap], cv z] w fun e w' => e = .returned (.tuple #[.float .f32 (if b then q else 0), .bool b]) ∧ Below w.heap.size w w' := by
  have hp := new_cell w (.slice (some ⟨g, 0, none⟩) xs.length cap) 28
  have hr0 := hr.alloc (.cells #[.slice (some ⟨g, 0, none⟩) xs.length cap] 28)
  have hz := hm.finz
  go_enter Tryz.func22, Tryz.ntmps22
  go_wp2_with (first
    | (go_at_call 44; refine (spec_l05Can _ g cap xs z _ hp hr0 hv h2 hz).mono ?_; rintro e w' ⟨rfl, rfl⟩)
    | (go_at_call 41; refine (spec_l05Miss _ g cap xs z v l lv a q b _ hp (by simp) hr0 hv hm).mono ?_; rintro e w1 ⟨rfl, hb1⟩))
  all_goals (go_ret2; exact ⟨rfl, below_alloc hb1⟩)

def allTo (bs : Nat → Bool) : Nat → Bool
  | 0 => true
  | k + 1 => allTo bs k && bs k
theorem allTo_false {bs : Nat → Bool} {k : Nat} (h : bs k = false) : ∀ n, k < n → allTo bs n = false := by
  intro n
  induction n with
  | zero => intro h; omega
  | succ n ih =>
    intro hn
    by_cases e : k = n
    · subst e; simp [allTo, h]
    · simp [allTo, ih (by omega)]
theorem ret_fb {b c : Bool} (h : b = c) : Ending.returned (.tuple #[.float .f32 0, .bool b]) = .returned (.tuple #[.float .f32 0, .bool c]) := by rw [h]

set_option maxHeartbeats 1000000 in
theorem impl_MissOfRoots (g cap gr capr : Nat) (xs rs : List C) (bs : Nat → Bool) (w : World) (hr : Rd w g xs) (hrs : Rd w gr rs) (hv : VP xs) (h2 : 2 ≤ xs.length) (hr1 : 1 ≤ rs.length) (hr16 : rs.length ≤ 16) (hf : AllFin rs)
    (hm : ∀ i, i < rs.length → ∃ v l a, Miss xs (at_ rs i) v l 0 a 0 (bs i)) :
    Calls Tryz.prog 9 #[.agg #[.slice (some ⟨g, 0, none⟩) xs.length cap], .slice (some ⟨gr, 0, none⟩) rs.length capr] w fun e w' => e = .returned (.tuple #[.float .f32 0, .bool (allTo bs rs.length)]) ∧ Below w.heap.size w w' := by
  have HM := Lib.hid hm
  have k0 : FloatKind.f32.format.order 0 0 = some .eq := by kernel_rfl
  have hn := hv.most
  clear hm
  go_enter Tryz.func9, Tryz.ntmps9
  go_wp2_with (first
    | (go_at_call 38; refine (impl_isRooted g cap xs _ (hr.alloc _) hv h2).mono ?_; rintro e w1 ⟨rfl, hb1⟩; have hc1 := box_cell hb1; have hr1' := (hr.alloc _).below hb1; have hrs1 := (hrs.alloc _).below hb1; have hs1 := size_box hb1)
    | (go_at_call 11; refine (impl_AreRoots gr capr rs w1 hr1 hr16 hrs1 hf).mono ?_; rintro e w2 ⟨rfl, hb2⟩))
  have hc2 := (hb2.cell (p := ⟨w.heap.size, 0, none⟩) hs1).trans hc1
  have HB := below_trans (below_alloc hb1) hb2
  have HRX := Lib.hid (hr1'.below hb2)
  have HRS := Lib.hid (hrs1.below hb2)
  have hs2 : w.heap.size < w2.heap.size := Nat.lt_of_lt_of_le hs1 hb2.size
  clear hb1 hb2 hc1 hr1' hrs1 hr hrs hs1
  go_loopw [6, 21] (fun s i wr => ∃ (k : Nat), k ≤ rs.length ∧ Hid (allTo bs k = true) ∧ s = .float .f32 0 ∧ i = .int .i64 k ∧ Below w2.heap.size w2 wr) (fun _ i _ => rs.length - (intOf i).toNat)
  case atStart => exact ⟨0, Nat.zero_le _, Lib.hid rfl, rfl, rfl, Below.refl _ _⟩
  case round =>
    obtain ⟨k, hk, hall, rfl, rfl, hbw⟩ := hrel
    by_cases hlt : k < rs.length
    · obtain ⟨v, l, a, hM⟩ := HM.out k hlt
      have hx := (HRS.out.below hbw).2 k hlt
      have hcr := (hbw.cell (p := ⟨w.heap.size, 0, none⟩) hs2).trans hc2
      have HX := Lib.hid (HRX.out.below hbw)
      cases hbk : bs k with
      | false =>
        have hfa := allTo_false hbk rs.length hlt
        rw [hbk] at hM
        have HF := Lib.hid hfa
        clear hbk hfa
        go_wp2_with (go_at_call 21; refine (impl_MissAt g cap xs (at_ rs k) v l 0 a 0 false _ HX.out hv h2 hM).mono ?_; rintro e w3 ⟨rfl, hb3⟩)
        all_goals (go_ret2; exact ⟨ret_fb HF.out.symm, below_trans HB (below_trans hbw hb3)⟩)
      | true =>
        rw [hbk] at hM
        have HT : Hid (allTo bs (k + 1) = true) := Lib.hid (by simp [allTo, hall.out, hbk])
        clear hbk
        go_wp2_with (go_at_call 21; refine (impl_MissAt g cap xs (at_ rs k) v l 0 a 0 true _ HX.out hv h2 hM).mono ?_; rintro e w3 ⟨rfl, hb3⟩)
        go_roundw
        case rel => exact ⟨k + 1, by omega, HT, by simp, by go_num, below_trans hbw hb3⟩
        case measure => simp [intOf]; omega
    · have e : k = rs.length := by omega
      have HA : Hid (allTo bs rs.length = true) := Lib.hid (by rw [← e]; exact hall.out)
      clear hall e
      go_wp2
      go_ret2
      exact ⟨ret_fb HA.out.symm, below_trans HB hbw⟩

set_option maxHeartbeats 1000000 in
theorem spec_MissOfRoots (g cap gr capr : Nat) (xs rs : List C) (bs : Nat → Bool) (w : World) (hr : Rd w g xs) (hrs : Rd w gr rs) (hv : VP xs) (h2 : 2 ≤ xs.length) (hr1 : 1 ≤ rs.length) (hr16 : rs.length ≤ 16) (hf : AllFin rs)
    (hm : ∀ i, i < rs.length → ∃ v l a, Miss xs (at_ rs i) v l 0 a 0 (bs i)) :
    Calls Tryz.prog 10 #[.agg #[.slice (some ⟨g, 0, none⟩) xs.length cap], .slice (some ⟨gr, 0, none⟩) rs.length capr] w fun e w' => e = .returned (.tuple #[.float .f32 0, .bool (allTo bs rs.length)]) ∧ Below w.heap.size w w' := by
  have HM := Lib.hid hm
  have k0 : FloatKind.f32.format.order 0 0 = some .eq := by kernel_rfl
  have hn := hv.most
  have hp := new_cell w (.slice (some ⟨g, 0, none⟩) xs.length cap) 28
  have hr0 := hr.alloc (.cells #[.slice (some ⟨g, 0, none⟩) xs.length cap] 28)
  have hrs0 := hrs.alloc (.cells #[.slice (some ⟨g, 0, none⟩) xs.length cap] 28)
  clear hm
  go_enter Tryz.func10, Tryz.ntmps10
  go_wp2_with (first
    | (go_at_call 39; refine (spec_l05Is _ g cap xs _ hp hr0 hv h2).mono ?_; rintro e w' ⟨rfl, rfl⟩)
    | (go_at_call 40; refine (spec_l05List gr capr rs _ hr1 hr16 hrs0 hf).mono ?_; rintro e w' ⟨rfl, rfl⟩))
  have hs2 : w.heap.size < (w.alloc (.cells #[.slice (some ⟨g, 0, none⟩) xs.length cap] 28)).heap.size := by simp
  have HRX := Lib.hid hr0
  have HRS := Lib.hid hrs0
  have HB : Below w.heap.size w (w.alloc (.cells #[.slice (some ⟨g, 0, none⟩) xs.length cap] 28)) := (Below.refl _ _).alloc (Nat.le_refl _) _
  clear hr hrs hr0 hrs0
  obtain ⟨w2, hw2⟩ : ∃ w2 : World, w2 = w.alloc (.cells #[.slice (some ⟨g, 0, none⟩) xs.length cap] 28) := ⟨_, rfl⟩
  rw [← hw2] at hs2 HRX HRS HB hp
  rw [← hw2]
  clear hw2
  go_loopw [6, 7, 19] (fun s _ i wr => ∃ (k : Nat), k ≤ rs.length ∧ Hid (allTo bs k = true) ∧ s = .float .f32 0 ∧ i = .int .i64 k ∧ Below w2.heap.size w2 wr) (fun _ _ i _ => rs.length - (intOf i).toNat)
  case atStart => exact ⟨0, Nat.zero_le _, Lib.hid rfl, rfl, rfl, Below.refl _ _⟩
  case round =>
    obtain ⟨k, hk, hall, rfl, rfl, hbw⟩ := hrel
    by_cases hlt : k < rs.length
    · obtain ⟨v, l, a, hM⟩ := HM.out k hlt
      have hx := (HRS.out.below hbw).2 k hlt
      have hcr := (hbw.cell (p := ⟨w.heap.size, 0, none⟩) hs2).trans hp
      have hsr := Nat.lt_of_lt_of_le hs2 hbw.size
      have HX := Lib.hid (HRX.out.below hbw)
      cases hbk : bs k with
      | false =>
        have hfa := allTo_false hbk rs.length hlt
        rw [hbk] at hM
        have HF := Lib.hid hfa
        clear hbk hfa
        go_wp2_with (go_at_call 41; refine (spec_l05Miss _ g cap xs (at_ rs k) v l 0 a 0 false _ hcr hsr HX.out hv hM).mono ?_; rintro e w3 ⟨rfl, hb3⟩)
        all_goals (go_ret2; exact ⟨ret_fb HF.out.symm, below_trans HB (below_trans hbw hb3)⟩)
      | true =>
        rw [hbk] at hM
        have HT : Hid (allTo bs (k + 1) = true) := Lib.hid (by simp [allTo, hall.out, hbk])
        clear hbk
        go_wp2_with (go_at_call 41; refine (spec_l05Miss _ g cap xs (at_ rs k) v l 0 a 0 true _ hcr hsr HX.out hv hM).mono ?_; rintro e w3 ⟨rfl, hb3⟩)
        go_roundw
        case rel => exact ⟨k + 1, by omega, HT, by simp, by go_num, below_trans hbw hb3⟩
        case measure => simp [intOf]; omega
    · have e : k = rs.length := by omega
      have HA : Hid (allTo bs rs.length = true) := Lib.hid (by rw [← e]; exact hall.out)
      clear hall e
      go_wp2
      go_ret2
      exact ⟨ret_fb HA.out.symm, below_trans HB hbw⟩
end Go.Proofs.YtlhdgbiaiacpfaaGreat
