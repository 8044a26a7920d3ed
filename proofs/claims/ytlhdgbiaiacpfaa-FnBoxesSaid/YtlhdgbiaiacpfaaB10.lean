/- Small functions of the law on boxes: the same numbers, the same lists, the gap. No condition but that the operations are valid. -/
import Derived.Test.YtlhdgbiaiacpfaaB9
namespace Go.Proofs.Ytlhdgbiaiacpfaa
open Go.RowKit

@[go_sem] theorem call_f32bits (x : Nat) (w : World) : (callFunc 94 #[.float .f32 x]).run Try.prog w = .ok (.value (.int .u32 x)) w := by
  rw [run_callFunc_extern Try.func94 (by kernel_rfl) (by kernel_rfl) (by kernel_rfl) (e := Extern.MathFloatBits.float32bits) (by kernel_rfl)]
  have e : Extern.MathFloatBits.float32bits #[.float .f32 x] = pure (.int .u32 x) := rfl
  rw [e]; rfl
/-- Parts that equal themselves. -/
def SelfC (z : C) : Prop := FloatKind.f32.format.order z.1 z.1 = some .eq ∧ FloatKind.f32.format.order z.2 z.2 = some .eq
theorem spec_l01Bits (x : Nat) (w : World) (h : FloatKind.f32.format.order x x = some .eq) :
    Calls Try.prog 80 #[.float .f32 x] w fun e w' => e = .returned (.int .i64 (wrap64 x)) ∧ w = w' := by
  go_enter Try.func80, Try.ntmps80
  go_wp2
  go_ret
  exact ⟨rfl, rfl⟩
theorem spec_l01Same (x : Nat) (w : World) (h : FloatKind.f32.format.order x x = some .eq) :
    Calls Try.prog 63 #[.float .f32 x, .float .f32 x] w fun e w' => e = .returned (.bool true) ∧ w = w' := by
  go_enter Try.func63, Try.ntmps63
  go_wp2_with (go_at_call 80; refine (spec_l01Bits x _ h).mono ?_; rintro e w' ⟨rfl, rfl⟩)
  go_ret
  exact ⟨rfl, rfl⟩
theorem spec_l01CSame (z : C) (w : World) (h : SelfC z) :
    Calls Try.prog 41 #[cv z, cv z] w fun e w' => e = .returned (.bool true) ∧ w = w' := by
  obtain ⟨h1, h2⟩ := h
  go_enter Try.func41, Try.ntmps41
  go_wp2_with (first
    | (go_at_call 63; (with_reducible refine (spec_l01Same z.1 _ h1).mono ?_); rintro e w' ⟨rfl, rfl⟩)
    | (go_at_call 63; (with_reducible refine (spec_l01Same z.2 _ h2).mono ?_); rintro e w' ⟨rfl, rfl⟩))
  go_ret
  exact ⟨rfl, rfl⟩
theorem spec_SameComplex (z : C) (w : World) (h : SelfC z) :
    Calls Try.prog 16 #[cv z, cv z] w fun e w' => e = .returned (.bool true) ∧ w = w' := by
  go_enter Try.func16, Try.ntmps16
  go_wp2_with (go_at_call 41; refine (spec_l01CSame z _ h).mono ?_; rintro e w' ⟨rfl, rfl⟩)
  go_ret
  exact ⟨rfl, rfl⟩

/-- How far two numbers are from each other. -/
def gapO (a b : Nat) : Option Nat := if lt64 a b then sub64 b a else sub64 a b
theorem laws_b10Gap (a b g : Nat) (w : World) (h : gapO a b = some g) :
    Calls Try.prog 10 #[.float .f64 a, .float .f64 b] w fun e w' => e = .returned (.float .f64 g) ∧ w = w' := by
  unfold gapO sub64 at h
  by_cases hl : lt64 a b = true
  · rw [if_pos hl] at h
    unfold lt64 at hl
    go_enter Try.func10, Try.ntmps10
    go_wp2
    go_ret
    exact ⟨rfl, rfl⟩
  · rw [if_neg hl] at h
    have hl' : (FloatKind.f64.format.order a b == some .lt) = false := by simpa [lt64] using hl
    clear hl
    go_enter Try.func10, Try.ntmps10
    go_wp2
    go_ret
    exact ⟨rfl, rfl⟩

set_option maxHeartbeats 400000 in
theorem laws_b10Ints (g cap g' cap' : Nat) (f : Nat → Int) (w : World) (h : RdI w g (uptoI f 4)) (h' : RdI w g' (uptoI f 4)) :
    Calls Try.prog 13 #[.slice (some ⟨g, 0, none⟩) 4 cap, .slice (some ⟨g', 0, none⟩) 4 cap'] w fun e w' => e = .returned (.bool true) ∧ Below w.heap.size w w' := by
  have HR := Lib.hid h
  have HR' := Lib.hid h'
  clear h h'
  go_enter Try.func13, Try.ntmps13
  go_wp2
  go_loopw [13] (fun i wr => ∃ k : Nat, k ≤ 4 ∧ i = .int .i64 k ∧ Below w.heap.size w wr) (fun i _ => 4 - (intOf i).toNat)
  case atStart => exact ⟨0, Nat.zero_le _, rfl, Below.refl _ _⟩
  case round =>
    obtain ⟨k, hk, rfl, hb⟩ := hrel
    obtain ⟨wo, rfl⟩ : ∃ wo : World, wo = wr := ⟨_, rfl⟩
    have HB := Lib.hid hb
    by_cases hlt : k < 4
    · have hx : wo.cell? ⟨g, k, none⟩ = some (.int .i64 (f k)) := by have := (HR.out.below hb).2 k (by rw [uptoI_length]; exact hlt); rwa [uptoI_at hlt] at this
      have hx' : wo.cell? ⟨g', k, none⟩ = some (.int .i64 (f k)) := by have := (HR'.out.below hb).2 k (by rw [uptoI_length]; exact hlt); rwa [uptoI_at hlt] at this
      have hd : decide ((k : Int) < 4) = true := by simp; omega
      have hk0 : (0 : Int) ≤ k := by omega
      have hk4 : (k : Int) < 4 := by omega
      clear hb
      go_upto_region 6 with (fail)
      go_quiet (fail)
      have HB2 : Hid (Below w.heap.size w (wo.drewN nq)) := Lib.hid (below_drewN HB.out nq)
      generalize wo.drewN nq = w7 at HB2 ⊢
      go_wp2_with fail
      go_roundw
      case rel => exact ⟨k + 1, by omega, by go_num, HB2.out⟩
      case measure => simp [intOf]; omega
    · have e : k = 4 := by omega
      subst e
      go_wp2
      go_ret
      exact ⟨rfl, HB.out⟩

theorem b10Long_no (A A' : Option Addr) (n c n' c' : Nat) (w : World) (hn : n ≤ 1048576) (hn' : n' ≤ 1048576) :
    Calls Try.prog 4 #[.slice A n c, .slice A' n' c'] w fun e w' => e = .returned (.bool false) ∧ w = w' := by
  have h := laws_b10Long A A' n c n' c' w (by omega) (by omega)
  have e : (decide ((1048576 : Int) < n) || decide ((1048576 : Int) < n')) = false := by simp; omega
  rwa [e] at h
theorem b10Long_yes (A A' : Option Addr) (n c n' c' : Nat) (w : World) (hn : n ≤ 9223372036854775807) (hn' : n' ≤ 9223372036854775807) (h1 : 1048576 < n ∨ 1048576 < n') :
    Calls Try.prog 4 #[.slice A n c, .slice A' n' c'] w fun e w' => e = .returned (.bool true) ∧ w = w' := by
  have h := laws_b10Long A A' n c n' c' w hn hn'
  have e : (decide ((1048576 : Int) < n) || decide ((1048576 : Int) < n')) = true := by simp; omega
  rwa [e] at h
theorem spec_B10Roots' (A : Option Addr) (len cap k : Nat) (w : World) (hb : Bts w w.heap.size A len) (hl : len ≤ 1048576) (hk : k < 4) :
    Calls Try.prog 6 #[.slice A len cap, .int .i64 (1 + (k : Int))] w fun e w' => ∃ rs : List C, rs.length = k + 1 ∧ Drawn rs ∧ GivesC rs w e w' := by
  have h := spec_B10Roots A len cap (k + 1) w hb hl (by omega)
  rwa [show (((k + 1 : Nat)) : Int) = 1 + (k : Int) by omega] at h
theorem cvmk (a b : Nat) : Value.complex .f32 a b = cv (a, b) := rfl
end Go.Proofs.Ytlhdgbiaiacpfaa
