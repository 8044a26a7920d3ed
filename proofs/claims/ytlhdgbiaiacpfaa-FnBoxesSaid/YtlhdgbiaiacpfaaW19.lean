/- Contracts of what draws the roots, on. No condition but what the bytes are. -/
import Derived.Test.YtlhdgbiaiacpfaaW18
namespace Go.Proofs.Ytlhdgbiaiacpfaa
open Go.RowKit

set_option maxHeartbeats 1000000 in
theorem spec_pick (s : Nat) (A : Option Addr) (len cap : Nat) (at_ seed m : Int) (B : Nat) (w : World) (hB : B ≤ s) (hs : Src w s A len cap at_ seed) (hb : Bts w B A len) (h0 : 0 ≤ at_) (h1 : at_ < 1048676) (hl : len ≤ 1048576) (hm : 1 < m) (hm2 : m ≤ 200) :
    Calls Try.prog 18 #[.pointer (some ⟨s, 0, none⟩), .int .i64 m] w (GivesNext m s A len cap at_ w) := by
  have HS := Lib.hid hs
  have HB := Lib.hid hb
  clear hs hb
  have hd1 : decide (m ≤ 1) = false := by simp; omega
  have hd2 : decide (200 < m) = false := by simp; omega
  have H0 := Lib.hid h0
  have H1 := Lib.hid h1
  have HL := Lib.hid hl
  have HM := Lib.hid hm
  have HM2 := Lib.hid hm2
  clear h0 h1 hl
  go_enter Try.func18, Try.ntmps18
  go_wp2_with (go_at_call 42; refine (spec_next s A len cap at_ seed B _ hB HS.out HB.out H0.out H1.out HL.out).mono ?_; rintro e w1 ⟨x, sd, rfl, hx0, hx1, hs1, hg1⟩)
  go_ret
  exact ⟨_, sd, rfl, Int.emod_nonneg _ (by omega), Int.emod_lt_of_pos _ (by omega), hs1, hg1⟩

theorem spec_l00From (A : Option Addr) (len cap : Nat) (w : World) :
    Calls Try.prog 17 #[.slice A len cap] w fun e w' => e = .returned (.pointer (some ⟨w.heap.size, 0, none⟩)) ∧ w' = w.alloc (.cells #[.slice A len cap, .int .i64 0, .int .u64 0] 73) := by
  go_enter Try.func17, Try.ntmps17
  go_wp2
  go_ret
  exact ⟨rfl, rfl⟩
theorem Src.made (A : Option Addr) (len cap : Nat) (w : World) (T : TypeId) : Src (w.alloc (.cells #[.slice A len cap, .int .i64 0, .int .u64 0] T)) w.heap.size A len cap 0 0 :=
  ⟨by go_simp, by go_simp, by go_simp, by go_simp, by go_simp⟩
theorem Src.below {w w' : World} {B s : Nat} {A : Option Addr} {len cap : Nat} {at_ seed : Int} (h : Src w s A len cap at_ seed) (hb : Below B w w') (hs : s < B) : Src w' s A len cap at_ seed :=
  ⟨(hb.cell (p := ⟨s, 0, none⟩) hs).trans h.c0, (hb.cell (p := ⟨s, 1, none⟩) hs).trans h.c1, (hb.cell (p := ⟨s, 2, none⟩) hs).trans h.c2, (hb.frozen (p := ⟨s, 1, none⟩) hs).trans h.f1, (hb.frozen (p := ⟨s, 2, none⟩) hs).trans h.f2⟩
theorem OwnC.grown {w w' : World} {base s : Nat} {v : Value} {ys : List C} (h : OwnC w base v ys) (hg : w.grownBy w' (some s)) (hs : s < base) : OwnC w' base v ys := by
  obtain ⟨g, cap, rfl, h⟩ := h
  have hl := h.lt g rfl
  exact ⟨g, cap, rfl, h.kept hg (by simp [Value.ownBlock]; omega)⟩

/-- An integer as a number. -/
def i32 (n : Int) : Nat := floatOfInt .f32 n
/-- The root that is drawn: k + a/8 - 3/2 and b/8 - 1. -/
def drawO (k a b : Int) : Option C :=
  (div32 (i32 a) 1090519040).bind fun q => (add32 (i32 k) q).bind fun x => (sub32 x 1069547520).bind fun re =>
  (div32 (i32 (b - 8)) 1090519040).bind fun im => some (re, im)
theorem draw_all : (List.range 4).all (fun k => (List.range 5).all fun a => (List.range 17).all fun b => (drawO k a b).isSome) = true := by decide +kernel
theorem draw_some {k a b : Int} (hk : 0 ≤ k) (hk2 : k < 4) (ha : 0 ≤ a) (ha2 : a < 5) (hb : 0 ≤ b) (hb2 : b < 17) : ∃ z, drawO k a b = some z := by
  obtain ⟨k, rfl⟩ := Int.eq_ofNat_of_zero_le hk
  obtain ⟨a, rfl⟩ := Int.eq_ofNat_of_zero_le ha
  obtain ⟨b, rfl⟩ := Int.eq_ofNat_of_zero_le hb
  have h := draw_all
  rw [List.all_eq_true] at h
  have h2 := h k (by simp; omega)
  rw [List.all_eq_true] at h2
  have h3 := h2 a (by simp; omega)
  rw [List.all_eq_true] at h3
  exact Option.isSome_iff_exists.mp (h3 b (by simp; omega))
theorem draw1 {k a : Int} (hk : 0 ≤ k) (hk2 : k < 4) (ha : 0 ≤ a) (ha2 : a < 5) :
    ∃ q x re, floatBits .quo .f32 (floatOfInt .f32 a) 1090519040 = some q ∧ floatBits .add .f32 (floatOfInt .f32 k) q = some x ∧ floatBits .sub .f32 x 1069547520 = some re ∧
      ∀ b : Int, 0 ≤ b → b < 17 → ∃ im, floatBits .quo .f32 (floatOfInt .f32 (b - 8)) 1090519040 = some im ∧ drawO k a b = some (re, im) := by
  obtain ⟨z, hz⟩ := draw_some hk hk2 ha ha2 (Int.le_refl 0) (by omega)
  unfold drawO at hz
  simp only [Option.bind_eq_some_iff] at hz
  obtain ⟨q, hq, x, hx, re, hre, _⟩ := hz
  refine ⟨q, x, re, hq, hx, hre, fun b hb hb2 => ?_⟩
  obtain ⟨z, hz⟩ := draw_some hk hk2 ha ha2 hb hb2
  have hz' := hz
  unfold drawO at hz
  simp only [hq, hx, hre, Option.bind_some, Option.bind_eq_some_iff, Option.some.injEq] at hz
  obtain ⟨im, him, rfl⟩ := hz
  exact ⟨im, him, hz'⟩
/-- A list of drawn roots. -/
def Drawn (rs : List C) : Prop := ∀ i, i < rs.length → ∃ a b : Int, 0 ≤ a ∧ a < 5 ∧ 0 ≤ b ∧ b < 17 ∧ drawO i a b = some (at_ rs i)
theorem at_append {rs : List C} {z : C} {i : Nat} (h : i < rs.length) : at_ (rs ++ [z]) i = at_ rs i := by
  simp [at_, List.getD, List.getElem?_append_left h]
theorem at_last {rs : List C} {z : C} : at_ (rs ++ [z]) rs.length = z := by simp [at_, List.getD]
theorem Drawn.nil : Drawn [] := fun i h => by simp at h
theorem Drawn.snoc {rs : List C} (h : Drawn rs) {a b : Int} (ha : 0 ≤ a) (ha2 : a < 5) (hb : 0 ≤ b) (hb2 : b < 17) {z : C} (hz : drawO rs.length a b = some z) : Drawn (rs ++ [z]) := by
  intro i hi
  simp at hi
  by_cases e : i < rs.length
  · rw [at_append e]; exact h i e
  · have e : i = rs.length := by omega
    subst e
    rw [at_last]
    exact ⟨a, b, ha, ha2, hb, hb2, hz⟩

set_option maxRecDepth 100000 in
set_option maxHeartbeats 1000000 in
theorem spec_B10Roots (A : Option Addr) (len cap n : Nat) (w : World) (hb : Bts w w.heap.size A len) (hl : len ≤ 1048576) (hn : n ≤ 4) :
    Calls Try.prog 6 #[.slice A len cap, .int .i64 n] w fun e w' => ∃ rs : List C, rs.length = n ∧ Drawn rs ∧ GivesC rs w e w' := by
  have HB := Lib.hid hb
  have HL := Lib.hid hl
  clear hb hl
  have hm := OwnC.made (w.alloc (.cells #[.slice A len cap, .int .i64 0, .int .u64 0] 73)) (w.heap.size + 1) (by simp)
  rw [show (w.alloc (.cells #[.slice A len cap, .int .i64 0, .int .u64 0] 73)).heap.size = w.heap.size + 1 by simp] at hm
  have hs0 := Src.made A len cap w 73
  go_enter Try.func6, Try.ntmps6
  go_wp2_with (go_at_call 17; refine (spec_l00From A len cap _).mono ?_; rintro e w' ⟨rfl, rfl⟩)
  go_loopw [6, 7, 8] (fun v i _ wr => ∃ (k : Nat) (l : List C) (sd : Int), k ≤ n ∧ Hid (l.length = k) ∧ Hid (Drawn l) ∧ OwnC wr (w.heap.size + 1) v l ∧ i = .int .i64 k ∧ Hid (Src wr w.heap.size A len cap (2 * k) sd) ∧ Below w.heap.size w wr) (fun _ i _ _ => n - (intOf i).toNat)
  case atStart => exact ⟨0, [], 0, Nat.zero_le _, Lib.hid rfl, Lib.hid Drawn.nil, hm, rfl, Lib.hid (by simpa using hs0.below ((Below.refl _ _).alloc (Nat.le_refl _) (.cells #[] 31)) (by simp)), ((Below.refl _ _).alloc (Nat.le_refl _) _).alloc (by simp) _⟩
  case round =>
    obtain ⟨k, l, sd, hk, hkl, hd, hown, rfl, hs, hbw⟩ := hrel
    obtain ⟨wo, rfl⟩ : ∃ wo : World, wo = wr := ⟨_, rfl⟩
    by_cases hlt : k < n
    · have Z1 := Lib.hid (fun W (hw : Below w.heap.size w W) (hS : Src W w.heap.size A len cap (2 * k) sd) => spec_pick w.heap.size A len cap (2 * k) sd 5 w.heap.size W (Nat.le_refl _) hS (HB.out.below hw) (by omega) (by omega) HL.out (by omega) (by omega))
      have Z2 := Lib.hid (fun W (hw : Below w.heap.size w W) sd1 (hS : Src W w.heap.size A len cap (2 * k + 1) sd1) => spec_pick w.heap.size A len cap (2 * k + 1) sd1 17 w.heap.size W (Nat.le_refl _) hS (HB.out.below hw) (by omega) (by omega) HL.out (by omega) (by omega))
      have HS := Lib.hid hbw
      clear hbw
      have Z3 := Lib.hid (fun a h1 h2 => draw1 (k := k) (a := a) (by omega) (by omega) h1 h2)
      have Z4 : IntKind.i64.wrap ((k : Int) + 1) = (k : Int) + 1 := IntWalk.i64_in _ (by omega)
      go_wp2_with (first
        | (go_at_call 18; (with_reducible refine (Z1.out _ HS.out hs.out).mono ?_); rintro e w1 ⟨a, sd1, rfl, ha0, ha1, hs1, hg1⟩; have HB1 := Lib.hid (HS.out.grown hg1 HS.out.size (fun k hk => by injection hk with e; omega)); have HO1 := Lib.hid (hown.grown hg1 (by omega)); have HS1 := Lib.hid hs1; have HA := Lib.hid (And.intro ha0 ha1); clear hs1 hg1 ha0 ha1 hown; obtain ⟨q, x, re, hq, hx, hre, him⟩ := Z3.out a HA.out.1 HA.out.2; have HIM := Lib.hid him; clear him)
        | (go_at_call 18; (with_reducible refine (Z2.out _ HB1.out _ HS1.out).mono ?_); rintro e w2 ⟨b, sd2, rfl, hb0, hb1, hs2, hg2⟩; have HB2 := Lib.hid (HB1.out.grown hg2 HB1.out.size (fun k hk => by injection hk with e; omega)); have HO2 := Lib.hid (HO1.out.grown hg2 (by omega)); have HS2 := Lib.hid hs2; have HBB := Lib.hid (And.intro hb0 hb1); have hbw : IntKind.i64.wrap (b - 8) = b - 8 := IntWalk.i64_in _ (by omega); obtain ⟨im, him, hdr⟩ := HIM.out b hb0 hb1; have HDR := Lib.hid hdr; clear hs2 hg2 hb0 hb1 hdr)
        | (at_builtin; refine append1 rfl (.tmp 24) (.tmp 33) rfl (w.heap.size + 1) _ l rfl HO2.out (re, im) rfl (by have := hkl.out; omega) (by obtain ⟨_, _, _, h1, h2, _⟩ := HO2.out.rd; have := h2.1; omega) ?_; intro v' w3 hown3 hb3; have HO3 := Lib.hid hown3; have HS3 := Lib.hid (HS2.out.below hb3 (Nat.lt_succ_self _)); have HB3 := Lib.hid (HB2.out.trans (hb3.mono (Nat.le_succ _))); clear hown3 hb3))
      go_roundw
      case rel => exact ⟨k + 1, l ++ [(re, im)], sd2, by omega, Lib.hid (by simp [hkl.out]), Lib.hid (hd.out.snoc HA.out.1 HA.out.2 HBB.out.1 HBB.out.2 (by rw [hkl.out]; exact HDR.out)), HO3.out, by go_num, Lib.hid (by have := HS3.out; rw [show 2 * (((k + 1 : Nat)) : Int) = 2 * k + 1 + 1 by omega]; exact this), HB3.out⟩
      case measure => simp [intOf]; omega
    · have e : k = n := by omega
      obtain ⟨gl, capl, ev, hbg, hrl, hcl⟩ := hown.rd
      subst ev
      have HO := Lib.hid hrl
      clear hown hrl
      go_wp2
      go_ret
      exact ⟨l, by rw [hkl.out]; exact e, hd.out, gl, capl, rfl, by omega, HO.out, hbw, hcl⟩
end Go.Proofs.Ytlhdgbiaiacpfaa
