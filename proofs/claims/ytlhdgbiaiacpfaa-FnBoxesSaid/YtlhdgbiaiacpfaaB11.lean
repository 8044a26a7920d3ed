/- The law on boxes: the walk. -/
import Derived.Test.YtlhdgbiaiacpfaaB10
namespace Go.Proofs.Ytlhdgbiaiacpfaa
open Go.RowKit

/-- What the law needs of its roots and their polynomial. -/
structure BoxesOk (rs ys : List C) : Prop where
  pr : prO rs rs.length = some ys
  vp : VP ys
  len : ys.length = rs.length + 1
  fin : AllFin rs
  box : ∃ d, IsBox (3238035456, 3238019072) (1090584576, 1090617344) d
  main : ∃ s f W g, BoxOk ys (3238035456, 3238019072) (1090584576, 1090617344) 40 s ∧ Flo s f rs.length ∧ wid s = some W ∧ gapO W (floatOfInt .f64 (rs.length : Int)) = some g ∧ (FloatKind.f64.format.order g 4576918229304087675 == some .gt) = false
  four : ∃ md ns, Four ys (3238035456, 3238019072) (1090584576, 1090617344) md 60 ns
  nrw : ∃ r, Nrw ys 60 3 (3238035456, 3238019072) (1090584576, 1090617344) r ∧ ∀ x, r = some x → SelfC x.1 ∧ SelfC x.2
  away : ∃ s f, BoxOk ys (1101004800, 1101004800) (1102053376, 1102053376) 40 s ∧ Flo s f 0

/-- A list of counts, or none. -/
def LstI (b : Bool) (xs : List Int) (a : Value) (W : World) : Prop := (b = true → ∃ g cap, a = .slice (some ⟨g, 0, none⟩) xs.length cap ∧ RdI W g xs) ∧ (b = false → a = .slice none 0 0)
theorem LstI.below {b : Bool} {xs : List Int} {a : Value} {w w' : World} (h : LstI b xs a w) (hb : Below w.heap.size w w') : LstI b xs a w' :=
  ⟨fun e => let ⟨g, cap, h1, h2⟩ := h.1 e; ⟨g, cap, h1, h2.below hb⟩, h.2⟩
theorem GivesI.lst {b : Bool} {xs : List Int} {w w' : World} {e : Ending} (h : GivesI b xs w e w') : ∃ a, e = .returned (.tuple #[a, .bool b]) ∧ LstI b xs a w' := by
  obtain ⟨h1, h2, h3⟩ := h
  cases b with
  | true =>
    obtain ⟨g, cap, rfl, _, hr⟩ := h2 rfl
    exact ⟨_, rfl, fun _ => ⟨g, cap, rfl, hr⟩, fun e => by cases e⟩
  | false =>
    obtain rfl := h3 rfl
    exact ⟨_, rfl, fun e => (by cases e), fun _ => rfl⟩
theorem res_form {r : Option (C × C)} (h : ∀ x, r = some x → SelfC x.1 ∧ SelfC x.2) : ∃ (x : C × C) (b : Bool), resN r = .tuple #[cv x.1, cv x.2, .bool b] ∧ (b = true → SelfC x.1 ∧ SelfC x.2) := by
  cases r with
  | some x => exact ⟨x, true, rfl, fun _ => h x rfl⟩
  | none => exact ⟨((0, 0), (0, 0)), false, rfl, fun e => by cases e⟩

set_option maxRecDepth 100000 in
theorem boxes_long (A A' : Option Addr) (n c n' c' : Nat) (w : World) (hn : n ≤ 9223372036854775807) (hn' : n' ≤ 9223372036854775807) (h1 : 1048576 < n ∨ 1048576 < n') :
    Calls Try.prog 3 #[.slice A n c, .slice A' n' c'] w fun e w' => e = .returned (.bool true) ∧ Below w.heap.size w w' := by
  have Z := Lib.hid (fun W => b10Long_yes A A' n c n' c' W hn hn' h1)
  clear hn hn' h1
  go_enter Try.func3, Try.ntmps3
  go_wp2_with (go_at_call 4; (with_reducible refine (Z.out _).mono ?_); rintro e w' ⟨rfl, rfl⟩)
  go_ret
  exact ⟨rfl, Below.refl _ _⟩

set_option maxRecDepth 100000 in
set_option maxHeartbeats 4000000 in
theorem boxes_short (ok : ∀ rs : List C, Drawn rs → 1 ≤ rs.length → rs.length ≤ 4 → ∃ ys, BoxesOk rs ys) (A A' : Option Addr) (n c n' c' : Nat) (w : World) (hn : n ≤ 1048576) (hn' : n' ≤ 1048576) (hb : Bts w w.heap.size A n) (hb' : Bts w w.heap.size A' n') :
    Calls Try.prog 3 #[.slice A n c, .slice A' n' c'] w fun e w' => e = .returned (.bool true) ∧ Below w.heap.size w w' := by
  have Z := Lib.hid (fun W => b10Long_no A A' n c n' c' W hn hn')
  have HN := Lib.hid hn
  have HN' := Lib.hid hn'
  have HB := Lib.hid hb
  have HB' := Lib.hid hb'
  clear hn hn' hb hb'
  go_enter Try.func3, Try.ntmps3
  go_upto_region 5 with (first
    | (go_at_call 4; (with_reducible refine (Z.out _).mono ?_); rintro e w' ⟨rfl, rfl⟩)
    | (go_at_call 5; (refine (laws_b10At A' n' c' 0 4 w.heap.size _ HN'.out HB'.out (by omega) (by omega) (by omega) (by omega)).mono ?_); rintro e w' ⟨x, rfl, hx0, hx1, rfl⟩; (obtain ⟨k, rfl⟩ := Int.eq_ofNat_of_zero_le hx0); have hk : k < 4 := by omega)
    | (go_at_call 6; (refine (spec_B10Roots' A n c k _ HB.out HN.out hk).mono ?_); rintro e w1 ⟨rs, hrl, hdr, g1, cap1, rfl, hg1, hr1, hb1, hcap1⟩; have HRL := Lib.hid hrl; clear hrl))
  obtain ⟨ys, S1', S2', S3', S4', ⟨d, hbox⟩, ⟨s, f, W, gp, m1, m2, m3, m4, m5⟩, ⟨md, ns, hfour⟩, ⟨r, hnrw, hself⟩, ⟨s', f', a1, a2⟩⟩ := ok rs hdr (by rw [HRL.out]; omega) (by rw [HRL.out]; omega)
  have hrk : (rs.length : Int) = 1 + (k : Int) := by rw [HRL.out]; omega
  rw [hrk] at m2 m4
  have S1 := Lib.hid S1'
  have S2 := Lib.hid S2'
  have S3 : Hid (ys.length = k + 2) := Lib.hid (by rw [S3', HRL.out])
  have S4 := Lib.hid S4'
  have S5 := Lib.hid hbox
  have M1 := Lib.hid m1
  have M2 := Lib.hid m2
  have M4 := Lib.hid m4
  have F4 := Lib.hid hfour
  have N3 := Lib.hid hnrw
  have SF := Lib.hid hself
  have A1 := Lib.hid a1
  have A2 := Lib.hid a2
  have hl4 : rs.length ≤ 4 := by rw [HRL.out]; omega
  have HR1 := Lib.hid hr1
  have HB1 := Lib.hid hb1
  clear S1' S2' S3' S4' hbox m1 m2 m4 hfour hnrw hself a1 a2 hdr hr1 hb1 hx0 hx1 hg1 hrk
  have hy2 : 2 ≤ ys.length := by rw [S3.out]; omega
  have Z8 := Lib.hid (fun W hw => spec_PolyOfRoots g1 cap1 rs ys W (by omega) hw S4.out S1.out S2.out)
  go_upto_region 8 with (go_at_call 7; (with_reducible refine (Z8.out _ HR1.out).mono ?_); rintro e w2 ⟨g2, cap2, rfl, hg2, hr2, hb2, hcap2⟩; have HR2 := Lib.hid hr2; have HB2 := Lib.hid hb2; clear hr2 hb2)
  have HS3 : Hid (NF w w2.heap.size g2 cap2 ys (w2.alloc (.cells #[.slice (some ⟨g2, 0, none⟩) ys.length cap2] 28))) :=
    Lib.hid ⟨new_cell w2 _ _, HR2.out.alloc _, below_trans (below_trans HB1.out HB2.out) ((Below.refl _ _).alloc (Nat.le_refl _) _)⟩
  generalize w2.alloc (.cells #[.slice (some ⟨g2, 0, none⟩) ys.length cap2] 28) = w3 at HS3 ⊢
  generalize w2.heap.size = bp at HS3 ⊢
  clear HR1 HB1 HR2 HB2 Z8 hcap1
  have hok : okN (1 + (k : Int)) ys.length = true := by rw [S3.out]; unfold okN; simp; omega
  have hok0 : okN 0 ys.length = true := by rw [S3.out]; unfold okN; simp; omega
  have Y1 := Lib.hid (fun W (h : NF w bp g2 cap2 ys W) => by have := impl_RootsOfBox g2 cap2 ys (3238035456, 3238019072) (1090584576, 1090617344) 40 s f _ W h.ry S2.out hy2 (by omega) (by omega) M1.out M2.out; rw [hok, if_pos rfl] at this; exact this)
  have Y2 := Lib.hid (fun W (h : NF w bp g2 cap2 ys W) => impl_TurnsOfBox g2 cap2 ys (3238035456, 3238019072) (1090584576, 1090617344) 40 s W h.ry S2.out hy2 (by omega) (by omega) M1.out)
  have Y3 := Lib.hid (fun W (h : NF w bp g2 cap2 ys W) => spec_FourBoxes g2 cap2 ys (3238035456, 3238019072) (1090584576, 1090617344) md d 60 ns W h.ry S2.out hy2 (by omega) (by omega) S5.out F4.out)
  have Y4 := Lib.hid (fun W (h : NF w bp g2 cap2 ys W) => impl_FourBoxes g2 cap2 ys (3238035456, 3238019072) (1090584576, 1090617344) md d 60 ns W h.ry S2.out hy2 (by omega) (by omega) S5.out F4.out)
  have Y5 := Lib.hid (fun W (h : NF w bp g2 cap2 ys W) => spec_NarrowBox g2 cap2 ys (3238035456, 3238019072) (1090584576, 1090617344) d 60 3 r W h.ry S2.out hy2 (by omega) (by omega) (by omega) S5.out N3.out)
  have Y6 := Lib.hid (fun W (h : NF w bp g2 cap2 ys W) => impl_NarrowBox g2 cap2 ys (3238035456, 3238019072) (1090584576, 1090617344) d 60 3 r W h.ry S2.out hy2 (by omega) (by omega) (by omega) S5.out N3.out)
  have Y7 := Lib.hid (fun W (h : NF w bp g2 cap2 ys W) => by have := impl_RootsOfBox g2 cap2 ys (1101004800, 1101004800) (1102053376, 1102053376) 40 s' f' 0 W h.ry S2.out hy2 (by omega) (by omega) A1.out A2.out; rw [hok0, if_pos rfl] at this; exact this)
  have G1 := Lib.hid (fun W' => laws_b10Gap W (floatOfInt .f64 (1 + (k : Int))) gp W' M4.out)
  clear hok hok0
  have c3 := HS3.out.c
  go_upto_region 11 with (go_at_call 8; refine (Y1.out _ HS3.out).mono ?_; rintro e w4 ⟨rfl, hb4⟩; have HS4 := Lib.hid (HS3.out.step hb4); clear hb4)
  clear c3
  have c4 := HS4.out.c
  unfold wid at m3
  go_upto_region 14 with (first
    | (go_at_call 9; refine (Y2.out _ HS4.out).mono ?_; rintro e w5 ⟨rfl, hb5⟩; have HS5 := Lib.hid (HS4.out.step hb5); clear hb5)
    | (go_at_call 10; (with_reducible refine (G1.out _).mono ?_); rintro e w' ⟨rfl, rfl⟩))
  clear c4 m3 m5
  have c5 := HS5.out.c
  obtain ⟨bA, hbA⟩ : ∃ bA, bA = allTo (fun i => okN (ns i) ys.length) 4 := ⟨_, rfl⟩
  rw [← hbA] at Y3 Y4
  clear hbA
  go_upto_region 15 with (go_at_call 11; refine (Y3.out _ HS5.out).mono ?_; rintro e w6 hg; obtain ⟨la, rfl, hla⟩ := hg.lst; have HS6 := Lib.hid (HS5.out.step hg.1); have LA := Lib.hid hla; clear hg hla)
  clear c5
  have c6 := HS6.out.c
  go_upto_region 16 with (go_at_call 12; refine (Y4.out _ HS6.out).mono ?_; rintro e w7 hg; obtain ⟨lb, rfl, hlb⟩ := hg.lst; have HS7 := Lib.hid (HS6.out.step hg.1); have LA7 := Lib.hid (LA.out.below hg.1); have LB := Lib.hid hlb; clear hg hlb)
  clear c6 LA
  go_cut [101] (fun b wx => b = .bool false ∧ NF w bp g2 cap2 ys wx)
  case first =>
    cases bA with
    | true =>
      obtain ⟨gv, capv, rfl, hrv⟩ := LA7.out.1 rfl
      obtain ⟨gu, capu, rfl, hru⟩ := LB.out.1 rfl
      simp only [uptoI_length]
      have HV7 := Lib.hid hrv
      have HU7 := Lib.hid hru
      clear LA7 LB hrv hru
      go_wp2_with (go_at_call 13; refine (laws_b10Ints gu capu gv capv ns _ HU7.out HV7.out).mono ?_; rintro e w8 ⟨rfl, hb8⟩; have HS8 := Lib.hid (HS7.out.step hb8); clear hb8)
      go_meet
      case rel => exact ⟨rfl, HS8.out⟩
    | false =>
      obtain rfl := LA7.out.2 rfl
      obtain rfl := LB.out.2 rfl
      clear LA7 LB
      go_wp2_with fail
      go_meet
      case rel => exact ⟨rfl, HS7.out⟩
  case rest =>
    obtain ⟨rfl, hs9⟩ := hcut
    have HS9 := Lib.hid hs9
    clear hs9 LA7 LB HS7
    have c9 := HS9.out.c
    obtain ⟨x, br, hres, hsx⟩ := res_form SF.out
    rw [hres] at Y5 Y6
    have SX := Lib.hid hsx
    clear hres hsx
    go_upto_region 19 with (go_at_call 14; refine (Y5.out _ HS9.out).mono ?_; rintro e wA ⟨rfl, hbA⟩; have HSA := Lib.hid (HS9.out.step hbA); clear hbA)
    clear c9
    have cA := HSA.out.c
    go_upto_region 20 with (go_at_call 15; refine (Y6.out _ HSA.out).mono ?_; rintro e wB ⟨rfl, hbB⟩; have HSB := Lib.hid (HSA.out.step hbB); clear hbB)
    clear cA
    have cB := HSB.out.c
    cases br with
    | true =>
      obtain ⟨s1, s2⟩ := SX.out rfl
      go_upto_region 22 with (first
        | (go_at_call 16; (with_reducible refine (spec_SameComplex x.1 _ s1).mono ?_); rintro e w' ⟨rfl, rfl⟩)
        | (go_at_call 16; (with_reducible refine (spec_SameComplex x.2 _ s2).mono ?_); rintro e w' ⟨rfl, rfl⟩))
      go_wp2_with (go_at_call 8; refine (Y7.out _ HSB.out).mono ?_; rintro e wC ⟨rfl, hbC⟩; have HSC := Lib.hid (HSB.out.step hbC); clear hbC)
      go_ret
      exact ⟨rfl, HSC.out.b⟩
    | false =>
      go_upto_region 22 with (fail)
      go_wp2_with (go_at_call 8; refine (Y7.out _ HSB.out).mono ?_; rintro e wC ⟨rfl, hbC⟩; have HSC := Lib.hid (HSB.out.step hbC); clear hbC)
      go_ret
      exact ⟨rfl, HSC.out.b⟩

theorem laws_FnBoxes (ok : ∀ rs : List C, Drawn rs → 1 ≤ rs.length → rs.length ≤ 4 → ∃ ys, BoxesOk rs ys) (A A' : Option Addr) (n c n' c' : Nat) (w : World) (hn : n ≤ 9223372036854775807) (hn' : n' ≤ 9223372036854775807) (hb : Bts w w.heap.size A n) (hb' : Bts w w.heap.size A' n') :
    Calls Try.prog 3 #[.slice A n c, .slice A' n' c'] w fun e w' => e = .returned (.bool true) ∧ Below w.heap.size w w' := by
  by_cases h1 : 1048576 < n ∨ 1048576 < n'
  · exact boxes_long A A' n c n' c' w hn hn' h1
  · exact boxes_short ok A A' n c n' c' w (by omega) (by omega) hb hb'
end Go.Proofs.Ytlhdgbiaiacpfaa
