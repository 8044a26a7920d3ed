/- Contracts of the reference's tests and of its value of a polynomial. No condition but that the operations are valid and finite. -/
import Derived.Test.YtlhdgbiaiacpfaaW5
namespace Go.Proofs.Ytlhdgbiaiacpfaa
open Go.RowKit

theorem spec_l01Finite (x : Nat) (h : Fin x) (w : World) :
    Calls Try.prog 64 #[.float .f32 x] w fun e w' => e = .returned (.bool true) ∧ w = w' := by
  unfold Fin sub32 at h
  have h0 : (FloatKind.f32.format.order 0 0 == some Ordering.eq) = true := by kernel_rfl
  go_enter Try.func64, Try.ntmps64
  go_wp2
  go_ret
  exact ⟨rfl, rfl⟩

theorem spec_l01CFinite (x : C) (h : FinC x) (w : World) :
    Calls Try.prog 43 #[cv x] w fun e w' => e = .returned (.bool true) ∧ w = w' := by
  obtain ⟨h1, h2⟩ := h
  go_enter Try.func43, Try.ntmps43
  go_wp2_with (first
    | (go_at_call 64; (with_reducible refine (spec_l01Finite x.1 h1 _).mono ?_); rintro e w' ⟨rfl, rfl⟩)
    | (go_at_call 64; (with_reducible refine (spec_l01Finite x.2 h2 _).mono ?_); rintro e w' ⟨rfl, rfl⟩))
  go_ret
  exact ⟨rfl, rfl⟩

set_option maxHeartbeats 400000 in
theorem spec_l02CFinite (g cap : Nat) (xs : List C) (w : World) (hn : xs.length ≤ 1000) (hr : Rd w g xs) (hf : AllFin xs) :
    Calls Try.prog 19 #[.slice (some ⟨g, 0, none⟩) xs.length cap] w fun e w' => e = .returned (.bool true) ∧ w = w' := by
  have HR := Lib.hid hr
  have HF := Lib.hid hf
  clear hr hf
  go_enter Try.func19, Try.ntmps19
  go_wp2
  go_loop [3] (fun i => ∃ k : Nat, k ≤ xs.length ∧ i = .int .i64 k) (fun i => xs.length - (intOf i).toNat)
  case atStart => exact ⟨0, Nat.zero_le _, rfl⟩
  case round =>
    obtain ⟨k, hk, rfl⟩ := hrel
    by_cases hlt : k < xs.length
    · have hx := HR.out.2 k hlt
      have hfk := HF.out k hlt
      go_wp2_with (go_at_call 43; refine (spec_l01CFinite (at_ xs k) hfk _).mono ?_; rintro e w' ⟨rfl, rfl⟩)
      go_round
      case rel => exact ⟨k + 1, by omega, by go_num⟩
      case measure => simp [intOf]; omega
    · go_wp2
      go_ret
      exact ⟨rfl, rfl⟩

theorem spec_l02Is (b g cap : Nat) (xs : List C) (w : World) (hp : w.cell? ⟨b, 0, none⟩ = some (.slice (some ⟨g, 0, none⟩) xs.length cap)) (hr : Rd w g xs) (hv : VP xs) :
    Calls Try.prog 45 #[.pointer (some ⟨b, 0, none⟩)] w fun e w' => e = .returned (.bool true) ∧ w = w' := by
  obtain ⟨h1, h2, h3, h4⟩ := hv
  by_cases h5 : xs.length = 1
  · have hd : ((xs.length : Int) == 1) = true := by simp [h5]
    have H5 := Lib.hid h5
    clear h5 h4
    go_enter Try.func45, Try.ntmps45
    go_wp2_with (go_at_call 19; refine (spec_l02CFinite g cap xs _ (by omega) hr h3).mono ?_; rintro e w' ⟨rfl, rfl⟩)
    all_goals (go_ret; exact ⟨rfl, rfl⟩)
  · have h6 := h4.resolve_left h5
    have h1' : 2 ≤ xs.length := by omega
    have hd : ((xs.length : Int) == 1) = false := by simp; omega
    have hc := hr.2 (xs.length - 1) (by omega)
    clear h4 h5 h1
    go_enter Try.func45, Try.ntmps45
    go_wp2_with (go_at_call 19; refine (spec_l02CFinite g cap xs _ (by omega) hr h3).mono ?_; rintro e w' ⟨rfl, rfl⟩)
    all_goals (go_ret; exact ⟨rfl, rfl⟩)

theorem spec_l05Is (b g cap : Nat) (xs : List C) (w : World) (hp : w.cell? ⟨b, 0, none⟩ = some (.slice (some ⟨g, 0, none⟩) xs.length cap)) (hr : Rd w g xs) (hv : VP xs) (h2 : 2 ≤ xs.length) :
    Calls Try.prog 59 #[.pointer (some ⟨b, 0, none⟩)] w fun e w' => e = .returned (.bool true) ∧ w = w' := by
  have hn := hv.most
  have hd : decide ((2 : Int) ≤ xs.length) = true := by simp; omega
  go_enter Try.func59, Try.ntmps59
  go_wp2_with (go_at_call 45; refine (spec_l02Is b g cap xs _ hp hr hv).mono ?_; rintro e w' ⟨rfl, rfl⟩)
  all_goals (go_ret; exact ⟨rfl, rfl⟩)

set_option maxHeartbeats 400000 in
theorem spec_l02At (b g cap : Nat) (xs : List C) (z r : C) (w : World) (h1 : 1 ≤ xs.length) (hn : xs.length ≤ 1000) (hp : w.cell? ⟨b, 0, none⟩ = some (.slice (some ⟨g, 0, none⟩) xs.length cap)) (hr : Rd w g xs) (h : hornerO xs z = some r) :
    Calls Try.prog 98 #[.pointer (some ⟨b, 0, none⟩), cv z] w fun e w' => e = .returned (cv r) ∧ Below w.heap.size w w' := by
  have HR := Lib.hid hr
  have HH := Lib.hid h
  have hc := hr.2 (xs.length - 1) (by omega)
  clear hr h
  go_enter Try.func98, Try.ntmps98
  go_wp2
  go_quiet (fail)
  go_wp2
  go_loopw [5, 6] (fun v i wr => ∃ (j : Nat) (u : C), j ≤ xs.length - 1 ∧ Hid (hz xs z j = some u) ∧ v = cv u ∧ i = .int .i64 ((xs.length : Int) - 2 - j) ∧ ∃ m, wr = w.drewN m) (fun _ i _ => (intOf i + 1).toNat)
  case atStart => exact ⟨0, _, by omega, Lib.hid rfl, rfl, by go_num, nq, rfl⟩
  case round =>
    obtain ⟨j, u, hj, hu, rfl, rfl, m, rfl⟩ := hrel
    by_cases hlt : j < xs.length - 1
    · obtain ⟨p, q, hp', hq, hs⟩ := hz_succ HH.out hlt hu.out
      have hx := HR.out.2 (xs.length - 2 - j) (by omega)
      have HS := Lib.hid hs
      clear hs hu
      go_wp2_with fail
      go_quiet ((go_at_call 47; exact quietL (spec_l01Mul u z p hp' _)))
      go_wp2
      go_roundw
      case rel => exact ⟨j + 1, q, by omega, HS, rfl, by go_num, _, rfl⟩
      case measure => simp [intOf]; omega
    · have hu2 : hornerO xs z = some u := by
        have e : j = xs.length - 1 := by omega
        have := hu.out
        rw [e] at this
        exact this
      have e2 : r = u := Option.some.inj (HH.out.symm.trans hu2)
      have E := Lib.hid e2
      clear hu2 e2 hu
      go_wp2
      go_ret
      exact ⟨ret_cv E.out.symm, below_drewN (Below.refl _ _) m⟩

set_option maxHeartbeats 400000 in
theorem spec_PolyAt (g cap : Nat) (xs : List C) (z r : C) (w : World) (hr : Rd w g xs) (hv : VP xs) (hz : FinC z) (h : hornerO xs z = some r) (hf : FinC r) :
    Calls Try.prog 90 #[.agg #[.slice (some ⟨g, 0, none⟩) xs.length cap], cv z] w fun e w' => e = .returned (.tuple #[cv r, .bool true]) ∧ Below w.heap.size w w' := by
  have hn := hv.most
  have h1 := hv.pos
  have HH := Lib.hid h
  have hp := new_cell w (.slice (some ⟨g, 0, none⟩) xs.length cap) 28
  have hr0 := hr.alloc (.cells #[.slice (some ⟨g, 0, none⟩) xs.length cap] 28)
  clear h
  go_enter Try.func90, Try.ntmps90
  go_wp2_with (first
    | (go_at_call 45; refine (spec_l02Is _ g cap xs _ hp hr0 hv).mono ?_; rintro e w' ⟨rfl, rfl⟩)
    | (go_at_call 43; (with_reducible refine (spec_l01CFinite z hz _).mono ?_); rintro e w' ⟨rfl, rfl⟩)
    | (go_at_call 98; refine (spec_l02At _ g cap xs z r _ h1 (by omega) hp hr0 HH.out).mono ?_; rintro e w1 ⟨rfl, hb1⟩)
    | (go_at_call 43; (with_reducible refine (spec_l01CFinite r hf _).mono ?_); rintro e w' ⟨rfl, rfl⟩))
  go_ret2
  exact ⟨rfl, below_alloc hb1⟩
end Go.Proofs.Ytlhdgbiaiacpfaa
