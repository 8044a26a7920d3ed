/- Contracts of what draws the roots. No condition but what the bytes are. -/
import Derived.Test.YtlhdgbiaiacpfaaW17
import Derived.Deep.Cut
namespace Go.Proofs.Ytlhdgbiaiacpfaa
open Go.RowKit

/-- A slice of bytes: each one lies in memory below block B. -/
def Bts (w : World) (B : Nat) (A : Option Addr) (len : Nat) : Prop :=
  ∀ j, j < len → ∃ b off x : Nat, A = some ⟨b, off, none⟩ ∧ b < B ∧ w.cell? ⟨b, off + j, none⟩ = some (.int .u8 x) ∧ x < 256
theorem Bts.below {w w' : World} {B : Nat} {A : Option Addr} {len : Nat} (h : Bts w B A len) (hb : Below B w w') : Bts w' B A len := by
  intro j hj
  obtain ⟨b, off, x, h1, h2, h3, h4⟩ := h j hj
  exact ⟨b, off, x, h1, h2, (hb.cell (p := ⟨b, off + j, none⟩) h2).trans h3, h4⟩

theorem laws_b10Long (A A' : Option Addr) (n c n' c' : Nat) (w : World) (hn : n ≤ 9223372036854775807) (hn' : n' ≤ 9223372036854775807) :
    Calls Try.prog 4 #[.slice A n c, .slice A' n' c'] w fun e w' => e = .returned (.bool (decide ((1048576 : Int) < n) || decide ((1048576 : Int) < n'))) ∧ w = w' := by
  go_enter Try.func4, Try.ntmps4
  go_wp2
  all_goals (go_ret; exact ⟨rfl, rfl⟩)

theorem ret_i {a b : Int} (h : a = b) : Ending.returned (.int .i64 a) = .returned (.int .i64 b) := by rw [h]

/-- A number below m. -/
def GivesBelow (m : Int) (w : World) (e : Ending) (w' : World) : Prop := ∃ x : Int, e = .returned (.int .i64 x) ∧ 0 ≤ x ∧ x < m ∧ w = w'

set_option maxRecDepth 100000 in
set_option maxHeartbeats 1000000 in
theorem laws_b10At (A : Option Addr) (n c : Nat) (i m : Int) (B : Nat) (w : World) (hn : n ≤ 1048576) (h : Bts w B A n) (hi : 0 ≤ i) (hi2 : i < 1000) (hm : 1 < m) (hm2 : m < 1000) :
    Calls Try.prog 5 #[.slice A n c, .int .i64 i, .int .i64 m] w (GivesBelow m w) := by
  by_cases h1 : i < n
  · obtain ⟨k, rfl⟩ := Int.eq_ofNat_of_zero_le hi
    obtain ⟨b, off, x, rfl, hb, hc, hx⟩ := h k (by omega)
    clear h
    go_enter Try.func5, Try.ntmps5
    go_wp2
    go_ret
    exact ⟨_, rfl, Int.emod_nonneg _ (by omega), Int.emod_lt_of_pos _ (by omega), rfl⟩
  · clear h
    go_enter Try.func5, Try.ntmps5
    go_wp2
    go_ret
    exact ⟨_, rfl, Int.emod_nonneg _ (by omega), Int.emod_lt_of_pos _ (by omega), rfl⟩

/-- The source: a block of three cells. -/
structure Src (w : World) (s : Nat) (A : Option Addr) (len cap : Nat) (at_ seed : Int) : Prop where
  c0 : w.cell? ⟨s, 0, none⟩ = some (.slice A len cap)
  c1 : w.cell? ⟨s, 1, none⟩ = some (.int .i64 at_)
  c2 : w.cell? ⟨s, 2, none⟩ = some (.int .u64 seed)
  f1 : w.frozen? ⟨s, 1, none⟩ = false
  f2 : w.frozen? ⟨s, 2, none⟩ = false

/-- What 'next' leaves: a number m at most 255, the source moved on, and nothing else turned. -/
def GivesNext (m : Int) (s : Nat) (A : Option Addr) (len cap : Nat) (at_ : Int) (w : World) (e : Ending) (w' : World) : Prop :=
  ∃ x seed : Int, e = .returned (.int .i64 x) ∧ 0 ≤ x ∧ x < m ∧ Src w' s A len cap (at_ + 1) seed ∧ w.grownBy w' (some s)

theorem grown_drewN {w w' : World} {o : Option Nat} {n : Nat} (h : w.grownBy w' o) : w.grownBy (w'.drewN n) o := by
  obtain ⟨a, b, c, d, e⟩ := h
  exact ⟨a, b, c, d, e⟩
theorem u64_bounds (n : Int) : 0 ≤ IntKind.u64.wrap n ∧ IntKind.u64.wrap n ≤ 18446744073709551615 := by
  simp only [IntKind.wrap, IntKind.bits, IntKind.signed]; simp; omega
theorem and255 (sb : Int) (h0 : 0 ≤ sb) (h1 : sb ≤ 18446744073709551615) : 0 ≤ bits BinOp.and IntKind.u64 (sb / 1099511627776) 255 ∧ bits BinOp.and IntKind.u64 (sb / 1099511627776) 255 < 256 := by
  obtain ⟨k, rfl⟩ := Int.eq_ofNat_of_zero_le h0
  have h := bits_and_u64_nat (k / 1099511627776) 255 (by omega) (by omega)
  have h2 : (k / 1099511627776 &&& 255) ≤ 255 := Nat.and_le_right
  have h3 : bits BinOp.and IntKind.u64 ((k : Int) / 1099511627776) 255 = (((k / 1099511627776) &&& 255 : Nat) : Int) := h
  rw [h3]
  omega
theorem Src.set {w : World} {s : Nat} {A : Option Addr} {len cap : Nat} {at_ seed : Int} (hs : Src w s A len cap at_ seed) (n : Nat) (a' sd : Int) :
    Src (((w.drewN n).setCell ⟨s, 1, none⟩ (.int .i64 a')).setCell ⟨s, 2, none⟩ (.int .u64 sd)) s A len cap a' sd ∧ w.grownBy (((w.drewN n).setCell ⟨s, 1, none⟩ (.int .i64 a')).setCell ⟨s, 2, none⟩ (.int .u64 sd)) (some s) := by
  obtain ⟨c0, c1, c2, f1, f2⟩ := hs
  refine ⟨⟨?_, ?_, ?_, ?_, ?_⟩, ⟨rfl, rfl, rfl, ?_, ?_⟩⟩
  · go_simp
  · go_simp
  · go_simp
  · go_simp
  · go_simp
  · simp [World.setCell, World.drewN]
  · intro k hk hne
    have h : k ≠ s := fun e => hne (by rw [e])
    rw [Below.heap_setCell _ _ _ _ (by simpa using h), Below.heap_setCell _ _ _ _ (by simpa using h)]
    rfl

set_option maxRecDepth 100000 in
set_option maxHeartbeats 1000000 in
theorem spec_next (s : Nat) (A : Option Addr) (len cap : Nat) (at_ seed : Int) (B : Nat) (w : World) (hB : B ≤ s) (hs : Src w s A len cap at_ seed) (hb : Bts w B A len) (h0 : 0 ≤ at_) (h1 : at_ < 1048676) (hl : len ≤ 1048576) :
    Calls Try.prog 42 #[.pointer (some ⟨s, 0, none⟩)] w (GivesNext 256 s A len cap at_ w) := by
  have hs0 := hs
  obtain ⟨c0, c1, c2, f1, f2⟩ := hs
  by_cases hlt : at_ < len
  · obtain ⟨k, rfl⟩ := Int.eq_ofNat_of_zero_le h0
    obtain ⟨b, off, x, rfl, hbB, hc, hx⟩ := hb k (by omega)
    have hne : b ≠ s := by omega
    clear hb
    go_enter Try.func42, Try.ntmps42
    go_wp2
    go_quiet (fail)
    obtain ⟨n1, rfl⟩ : ∃ n1 : Nat, n1 = nq := ⟨_, rfl⟩
    go_wp2
    go_quiet (fail)
    obtain ⟨n2, rfl⟩ : ∃ n2 : Nat, n2 = nq := ⟨_, rfl⟩
    go_upto_region 6 with (fail)
    have hb1 := u64_bounds (IntKind.u64.wrap (IntKind.u64.wrap (seed * 6364136223846793005) + x) + 1442695040888963407)
    generalize IntKind.u64.wrap (IntKind.u64.wrap (IntKind.u64.wrap (seed * 6364136223846793005) + x) + 1442695040888963407) = sb at hb1 ⊢
    generalize IntKind.u64.wrap (IntKind.u64.wrap (seed * 6364136223846793005) + x) = sa
    generalize IntKind.u64.wrap (seed * 6364136223846793005) = sc
    obtain ⟨hs', hg⟩ := Src.set hs0 (n1 + n2) ((k : Int) + 1) sb
    generalize ((w.drewN (n1 + n2)).setCell ⟨s, 1, none⟩ (.int .i64 ((k : Int) + 1))).setCell ⟨s, 2, none⟩ (.int .u64 sb) = w3 at hs' hg ⊢
    obtain ⟨e0, e1, e2, _, _⟩ := hs'
    have HB1 := Lib.hid hb1
    clear c0 c1 c2 f1 f2 hc hs0 hb1
    go_quiet (fail)
    have hd : decide ((k : Int) + 1 ≤ len) = true := by simp; omega
    have H1 := Lib.hid h1
    have HL := Lib.hid hl
    have HX := Lib.hid hx
    have H0 := Lib.hid h0
    have HLT := Lib.hid hlt
    have HD := Lib.hid hd
    clear h1 hl hx h0 hlt hd hbB hne
    go_step
    go_step
    have E0 := Lib.hid e0
    have E1 := Lib.hid e1
    have E2 := Lib.hid e2
    have HG := Lib.hid hg
    clear e0 e1 e2 hg
    go_simp
    rw [HD.out]
    go_step
    go_wp2
    go_ret
    exact ⟨x, sb, rfl, by omega, by have := HX.out; omega, ⟨by have := E0.out; go_simp, by have := E1.out; go_simp, by have := E2.out; go_simp, by go_simp, by go_simp⟩, grown_drewN HG.out⟩
  · clear hb
    go_enter Try.func42, Try.ntmps42
    go_wp2
    go_quiet (fail)
    obtain ⟨n1, rfl⟩ : ∃ n1 : Nat, n1 = nq := ⟨_, rfl⟩
    go_upto_region 6 with (fail)
    have hb1 := u64_bounds (IntKind.u64.wrap (IntKind.u64.wrap (seed * 6364136223846793005)) + 1442695040888963407)
    generalize IntKind.u64.wrap (IntKind.u64.wrap (IntKind.u64.wrap (seed * 6364136223846793005)) + 1442695040888963407) = sb at hb1 ⊢
    generalize IntKind.u64.wrap (IntKind.u64.wrap (seed * 6364136223846793005)) = sa
    generalize IntKind.u64.wrap (seed * 6364136223846793005) = sc
    obtain ⟨hs', hg⟩ := Src.set hs0 n1 (at_ + 1) sb
    generalize ((w.drewN n1).setCell ⟨s, 1, none⟩ (.int .i64 (at_ + 1))).setCell ⟨s, 2, none⟩ (.int .u64 sb) = w3 at hs' hg ⊢
    obtain ⟨e0, e1, e2, _, _⟩ := hs'
    have HB1 := Lib.hid hb1
    clear c0 c1 c2 f1 f2 hs0 hb1
    go_quiet (fail)
    have HD := Lib.hid (show decide (at_ + 1 ≤ (len : Int)) = false by simp; omega)
    have H1 := Lib.hid h1
    have HL := Lib.hid hl
    have H0 := Lib.hid h0
    have HLT := Lib.hid hlt
    clear h1 hl h0 hlt
    rename_i hxx _ _ _ _ _ _
    clear hxx
    go_step
    go_step
    have E0 := Lib.hid e0
    have E1 := Lib.hid e1
    have HG := Lib.hid hg
    clear e0 e1 hg
    go_simp
    rw [HD.out]
    go_step
    go_wp2
    have hbit := and255 sb HB1.out.1 HB1.out.2
    generalize bits BinOp.and IntKind.u64 (sb / 1099511627776) 255 = bx at hbit ⊢
    have hbx : wrap64 bx = bx := by unfold wrap64; omega
    rw [hbx]
    go_ret
    exact ⟨bx, sb, rfl, hbit.1, hbit.2, ⟨by have := E0.out; go_simp, by have := E1.out; go_simp, by go_simp, by go_simp, by go_simp⟩, grown_drewN HG.out⟩
end Go.Proofs.Ytlhdgbiaiacpfaa
