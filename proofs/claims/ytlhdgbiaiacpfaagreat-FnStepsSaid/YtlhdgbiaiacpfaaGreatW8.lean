/- Lists that a call makes; the slope of a polynomial, the program's and the reference's. No condition but that the operations are valid and finite. -/
import Derived.Test.YtlhdgbiaiacpfaaGreatW7
namespace Go.Proofs.YtlhdgbiaiacpfaaGreat
open Go.RowKit

/-- A slice of complex numbers of the call's own, from its block's head on. -/
def OwnC (w : World) (base : Nat) (v : Value) (ys : List C) : Prop :=
  ∃ g cap, v = .slice (some ⟨g, 0, none⟩) ys.length cap ∧ w.ownsRow base 36 1 v ys.length (ys.map cv)
theorem infoC : (Tryz.prog.info? 36).map (fun i => (i.zero, i.size, i.bytes)) = some (some (.complex .f32 0 0), 1, 8) := by kernel_rfl

theorem OwnC.rd {w : World} {base : Nat} {v : Value} {ys : List C} (h : OwnC w base v ys) : ∃ g cap, v = .slice (some ⟨g, 0, none⟩) ys.length cap ∧ base ≤ g ∧ Rd w g ys ∧ ys.length ≤ cap := by
  obtain ⟨g, cap, rfl, h⟩ := h
  have hl := h.lt g (by rfl)
  have hc : ys.length ≤ cap := by
    rcases h.2 with ⟨hv, _⟩ | ⟨g', cap', cur, hv, _, _, h3, _⟩
    · cases hv
    · injection hv with _ _ e; omega
  refine ⟨g, cap, rfl, hl.1, ⟨hl.2, fun k hk => ?_⟩, hc⟩
  rw [h.cellAt k (by omega)]
  simp [at_, List.getD, hk]
theorem OwnC.made (w : World) (base : Nat) (hb : base ≤ w.heap.size) : OwnC (w.alloc (.cells #[] 36)) base (.slice (some ⟨w.heap.size, 0, none⟩) 0 0) [] :=
  ⟨_, 0, rfl, World.ownsRow_made w #[] 0 hb (by simp [maxLen]) rfl⟩
theorem OwnC.made2 (w : World) (v : Value) (T : TypeId) : OwnC ((w.alloc (.cells #[v] T)).alloc (.cells #[] 36)) (w.heap.size + 1) (.slice (some ⟨w.heap.size + 1, 0, none⟩) 0 0) [] := by
  have e : (w.alloc (.cells #[v] T)).heap.size = w.heap.size + 1 := by simp
  rw [← e]
  exact OwnC.made _ _ (Nat.le_refl _)
theorem OwnC.below {w w' : World} {base : Nat} {v : Value} {ys : List C} (h : OwnC w base v ys) (hb : Below w.heap.size w w') : OwnC w' base v ys := by
  obtain ⟨g, cap, rfl, h⟩ := h
  exact ⟨g, cap, rfl, h.kept (row := none) ⟨hb.os, hb.tape, hb.output, hb.size, fun k hk _ => hb.block k hk⟩ (by simp [Value.ownBlock])⟩
theorem OwnC.drew {w : World} {base : Nat} {v : Value} {ys : List C} (h : OwnC w base v ys) : OwnC w.drew base v ys := h
theorem OwnC.drewN {w : World} {base n : Nat} {v : Value} {ys : List C} (h : OwnC w base v ys) : OwnC (w.drewN n) base v ys := h
theorem OwnC.alloc {w : World} {base : Nat} {v : Value} {ys : List C} (h : OwnC w base v ys) (o : Obj) : OwnC (w.alloc o) base v ys := h.below ((Below.refl _ _).alloc (Nat.le_refl _) _)

theorem append1 {w0 : World} {ops : Array Oper} {rest : List Oper} {o : Oper} {a : Act} {Q : Exit → Act → World → Prop} (hgd : o.guard = none) (s x : Operand)
    (ho : o.op = .call { callee := .builtin .append, args := #[s, x], argTypes := #[25, 25] })
    (base : Nat) (v : Value) (ys : List C) (hs : a.eval s = v) (hown : OwnC w0 base v ys) (r : C) (hx : a.eval x = .slice (some ⟨w0.heap.size, 0, none⟩) 1 1)
    (hlen : ys.length < 1000) (hbase : base ≤ w0.heap.size)
    (h : ∀ v' w', OwnC w' base v' (ys ++ [r]) → Below base w0 w' → wpList Tryz.prog ops Q rest (a.put o.dst v') w') :
    wpList Tryz.prog ops Q (o :: rest) a (w0.alloc (.cells #[cv r] 36)) := by
  obtain ⟨i0, hi, hz0, hz1, hz2⟩ := info_parts infoC
  obtain ⟨g, cap, rfl, hown⟩ := hown
  have hl := hown.lt g rfl
  refine wpList_append_own (w0.alloc (.cells #[cv r] 36)) hgd s x 25 ho base 36 i0 (.complex .f32 0 0) 1 8 Tryz.underlying25 hi hz0 hz1 hz2 rfl (by decide) _ _ _ hs (hown.alloc _)
    ⟨w0.heap.size, 0, none⟩ 1 1 [cv r] hx rfl ?_ (by intro u hu; simp at hu; subst hu; rfl) (by simp [maxLen]; omega) (by omega) (by simp; omega) ?_
  · intro j u hu
    have : j = 0 := by
      rcases j with _ | j
      · rfl
      · simp at hu
    subst this
    simp at hu
    subst hu
    exact new_cell w0 (cv r) _
  · intro v' w1 hown1 hg1 _
    refine h v' w1 ?_ ?_
    · rcases hown1.2 with ⟨_, h0⟩ | ⟨g', cap', cur, rfl, _⟩
      · omega
      · exact ⟨g', cap', by simp, by simpa using hown1⟩
    · exact ((Below.refl _ _).alloc hbase _).grown hg1 (by simp; omega) (fun k (hk : some g = some k) => by injection hk with e; omega)

/-- The first j terms of the slope, before they are trimmed. -/
def slO (xs : List C) : Nat → Option (List C)
  | 0 => some []
  | j + 1 => (slO xs j).bind fun l => (scaleO (at_ xs (j + 1)) (floatOfInt .f32 ((j + 1 : Nat) : Int))).bind fun x => some (l ++ [x])
theorem slO_some {xs : List C} {r : List C} : ∀ {n j : Nat}, slO xs n = some r → j ≤ n → ∃ v, slO xs j = some v := by
  intro n j
  induction n generalizing r with
  | zero => intro h hj; obtain rfl : j = 0 := by omega
            exact ⟨r, h⟩
  | succ n ih =>
    intro h hj
    by_cases e : j = n + 1
    · subst e; exact ⟨r, h⟩
    · simp only [slO, Option.bind_eq_some_iff] at h
      obtain ⟨v, hv, _⟩ := h
      exact ih hv (by omega)
theorem slO_succ {xs : List C} {r : List C} {n j : Nat} (h : slO xs n = some r) (hj : j < n) {l : List C} (hl : slO xs j = some l) :
    ∃ x, scaleO (at_ xs (j + 1)) (floatOfInt .f32 ((j + 1 : Nat) : Int)) = some x ∧ slO xs (j + 1) = some (l ++ [x]) := by
  obtain ⟨u, hu⟩ := slO_some h (j := j + 1) (by omega)
  have hu' := hu
  simp only [slO, hl, Option.bind_some, Option.bind_eq_some_iff, Option.some.injEq] at hu'
  obtain ⟨x, hx, rfl⟩ := hu'
  exact ⟨x, hx, hu⟩
theorem slO_length {xs : List C} : ∀ {j : Nat} {l : List C}, slO xs j = some l → l.length = j := by
  intro j
  induction j with
  | zero => intro l h; simp [slO] at h; subst h; rfl
  | succ j ih =>
    intro l h
    simp only [slO, Option.bind_eq_some_iff, Option.some.injEq] at h
    obtain ⟨l', hl', x, hx, rfl⟩ := h
    simp [ih hl']
/-- The terms of the slope, before they are trimmed. -/
def slopeO (xs : List C) : Option (List C) := if xs.length = 1 then some [(0, 0)] else slO xs (xs.length - 1)

/-- A result that is a slice of complex numbers. -/
def GivesC (ys : List C) (w : World) (e : Ending) (w' : World) : Prop :=
  ∃ g cap, e = .returned (.slice (some ⟨g, 0, none⟩) ys.length cap) ∧ w.heap.size ≤ g ∧ Rd w' g ys ∧ Below w.heap.size w w' ∧ ys.length ≤ cap

set_option maxHeartbeats 1000000 in
theorem impl_slopeTerms (g cap : Nat) (xs ys : List C) (w : World) (h1 : 1 ≤ xs.length) (hn : xs.length ≤ 17) (hr : Rd w g xs) (h : slopeO xs = some ys) :
    Calls Tryz.prog 99 #[.slice (some ⟨g, 0, none⟩) xs.length cap] w (GivesC ys w) := by
  have HR := Lib.hid hr
  have HY := Lib.hid h
  clear hr h
  go_enter Tryz.func99, Tryz.ntmps99
  go_wp2
  have hm := OwnC.made w w.heap.size (Nat.le_refl _)
  go_loopw [3, 4, 5, 9] (fun v _ _ i wr => ∃ (k : Nat) (l : List C), k ≤ xs.length ∧ Hid (k ≤ 1 ∨ xs.length ≠ 1) ∧ Hid (slO xs (k - 1) = some l) ∧ OwnC wr w.heap.size v l ∧ i = .int .i64 k ∧ Below w.heap.size w wr) (fun _ _ _ i _ => xs.length - (intOf i).toNat)
  case atStart => exact ⟨0, [], Nat.zero_le _, Lib.hid (.inl (by omega)), Lib.hid rfl, hm, rfl, (Below.refl _ _).alloc (Nat.le_refl _) _⟩
  case round =>
    obtain ⟨k, l, hk, hkn, hl, hown, rfl, hb⟩ := hrel
    have hll := slO_length hl.out
    by_cases hlt : k < xs.length
    · have hx := (HR.out.below hb).2 k hlt
      rcases Nat.eq_zero_or_pos k with h0 | h0
      · subst h0
        go_wp2
        go_roundw
        case rel => exact ⟨1, l, by omega, Lib.hid (.inl (by omega)), hl, hown, rfl, hb⟩
        case measure => simp [intOf]; omega
      · have hne : xs.length ≠ 1 := by omega
        have HY' : slO xs (xs.length - 1) = some ys := by have := HY.out; rw [slopeO, if_neg hne] at this; exact this
        obtain ⟨x, hx1, hx2⟩ := slO_succ HY' (j := k - 1) (by omega) hl.out
        rw [show k - 1 + 1 = k from by omega] at hx1 hx2
        have HX1 := Lib.hid hx1
        have HX2 := Lib.hid hx2
        have hd : decide ((0 : Int) < k) = true := by simp; omega
        clear hx1 hx2 HY' hl hkn
        go_wp2_with (first
          | (go_at_call 53; refine (impl_ScaleComplex (at_ xs k) x _ HX1.out _).mono ?_; rintro e w' ⟨rfl, rfl⟩)
          | (at_builtin; refine append1 rfl (.tmp 16) (.tmp 21) rfl w.heap.size _ l rfl hown x rfl (by omega) hb.size ?_; intro v' w1 hown1 hb1))
        go_roundw
        case rel => exact ⟨k + 1, l ++ [x], by omega, Lib.hid (.inr hne), HX2, hown1, by go_num, hb.trans hb1⟩
        case measure => simp [intOf]; omega
    · have e : k = xs.length := by omega
      by_cases hne : xs.length = 1
      · have HY' := HY.out
        rw [slopeO, if_pos hne] at HY'
        have hl0 : l = [] := List.eq_nil_of_length_eq_zero (by omega)
        obtain rfl : ys = [(0, 0)] := (Option.some.inj HY').symm
        subst hl0
        obtain ⟨g1, cap1, rfl, hown⟩ := hown
        clear hkn hl HY' e hll
        go_wp2
        go_ret
        refine ⟨_, 1, rfl, hb.size, ?_, hb.alloc hb.size _, Nat.le_refl _⟩
        exact one_rd _ (0, 0) _
      · have HY' := HY.out
        rw [slopeO, if_neg hne] at HY'
        have e2 : l = ys := Option.some.inj (by rw [← hl.out, e]; exact HY')
        subst e2
        obtain ⟨g1, cap1, rfl, hbg, hr1, hcp⟩ := hown.rd
        have hd : ((l.length : Int) == 0) = false := beq_false_of_ne (by omega)
        have HL := Lib.hid hll
        clear hkn hl HY' e hll
        go_wp2
        go_ret
        exact ⟨_, _, rfl, hbg, hr1, hb, hcp⟩

/-- Trimmed: nothing is left out. -/
theorem impl_trim (g cap : Nat) (xs : List C) (w : World) (hcap : xs.length ≤ cap) (hr : Rd w g xs) (hv : VP xs) :
    Calls Tryz.prog 119 #[.slice (some ⟨g, 0, none⟩) xs.length cap] w fun e w' => e = .returned (.slice (some ⟨g, 0, none⟩) xs.length cap) ∧ w = w' := by
  have hn := hv.most
  have h1 := hv.pos
  have hc := hr.2 (xs.length - 1) (by omega)
  rcases hv.last with h5 | h5
  · have h1' : decide ((1 : Int) < xs.length) = false := by simp; omega
    have H5 := Lib.hid h5
    clear h5
    go_enter Tryz.func119, Tryz.ntmps119
    go_wp2
    refine wp_loop_rounds 1 ?_
    rw [rounds_succ]
    go_wp2
    all_goals (first | (exfalso; have := H5.out; omega) | (go_ret; exact ⟨rfl, rfl⟩))
  · go_enter Tryz.func119, Tryz.ntmps119
    go_wp2
    refine wp_loop_rounds 1 ?_
    rw [rounds_succ]
    go_wp2
    all_goals (go_ret; exact ⟨rfl, rfl⟩)

theorem slices_Clip (g n cap : Nat) (w : World) (hcap : n ≤ cap) (hn : n ≤ 1000) :
    Calls Tryz.prog 120 #[.slice (some ⟨g, 0, none⟩) n cap] w fun e w' => e = .returned (.slice (some ⟨g, 0, none⟩) n n) ∧ w = w' := by
  go_enter Tryz.func120, Tryz.ntmps120
  go_wp2
  go_ret
  exact ⟨rfl, rfl⟩

/-- Two blocks of one cell, behind calls. -/
theorem two_cells {w w1 : World} {u v : Value} {T S : TypeId} (hb : Below ((w.alloc (.cells #[u] T)).alloc (.cells #[v] S)).heap.size ((w.alloc (.cells #[u] T)).alloc (.cells #[v] S)) w1) :
    w1.cell? ⟨w.heap.size, 0, none⟩ = some u ∧ w1.frozen? ⟨w.heap.size, 0, none⟩ = false ∧ w1.cell? ⟨w.heap.size + 1, 0, none⟩ = some v ∧ w1.frozen? ⟨w.heap.size + 1, 0, none⟩ = false ∧ w.heap.size + 1 < w1.heap.size := by
  have e : (w.alloc (.cells #[u] T)).heap.size = w.heap.size + 1 := by simp
  have hs := hb.size
  simp at hs
  refine ⟨?_, ?_, ?_, ?_, by omega⟩
  · rw [hb.cell (by simp; omega), World.cell?_alloc_lt _ _ _ (by simp), new_cell]
  · rw [hb.frozen (by simp; omega)]; go_simp
  · rw [hb.cell (by simp), ← e, new_cell]
  · rw [hb.frozen (by simp)]; go_simp
theorem below_alloc2 {w w' : World} {o o2 : Obj} (h : Below ((w.alloc o).alloc o2).heap.size ((w.alloc o).alloc o2) w') : Below w.heap.size w w' :=
  below_alloc (below_alloc h |>.mono (Nat.le_refl _))

theorem kc {w w' : World} {b : Nat} {v : Value} (hb : Below w.heap.size w w') (h : w.cell? ⟨b, 0, none⟩ = some v) : w'.cell? ⟨b, 0, none⟩ = some v :=
  (hb.cell (p := ⟨b, 0, none⟩) (World.block_lt_of_cell? w _ h)).trans h
theorem kf {w w' : World} {b : Nat} {v : Value} (hb : Below w.heap.size w w') (h : w.cell? ⟨b, 0, none⟩ = some v) (hf : w.frozen? ⟨b, 0, none⟩ = false) : w'.frozen? ⟨b, 0, none⟩ = false :=
  (hb.frozen (p := ⟨b, 0, none⟩) (World.block_lt_of_cell? w _ h)).trans hf

theorem kca {w : World} {b : Nat} {v : Value} (h : w.cell? ⟨b, 0, none⟩ = some v) (o : Obj) : (w.alloc o).cell? ⟨b, 0, none⟩ = some v := kc ((Below.refl _ _).alloc (Nat.le_refl _) o) h
theorem kfa {w : World} {b : Nat} {v : Value} (h : w.cell? ⟨b, 0, none⟩ = some v) (hf : w.frozen? ⟨b, 0, none⟩ = false) (o : Obj) : (w.alloc o).frozen? ⟨b, 0, none⟩ = false := kf ((Below.refl _ _).alloc (Nat.le_refl _) o) h hf

set_option maxHeartbeats 1000000 in
theorem impl_polyOf (g cap : Nat) (xs : List C) (w : World) (hcap : xs.length ≤ cap) (hr : Rd w g xs) (hv : VP xs) :
    Calls Tryz.prog 71 #[.slice (some ⟨g, 0, none⟩) xs.length cap] w fun e w' => e = .returned (.tuple #[.agg #[.slice (some ⟨g, 0, none⟩) xs.length xs.length], .bool true]) ∧ Below w.heap.size w w' := by
  have hn := hv.most
  go_enter Tryz.func71, Tryz.ntmps71
  go_wp2_with (first
    | (go_at_call 119; refine (impl_trim g cap xs _ hcap (hr.alloc _) hv).mono ?_; rintro e w' ⟨rfl, rfl⟩)
    | (go_at_call 120; refine (slices_Clip g xs.length cap _ hcap (by omega)).mono ?_; rintro e w' ⟨rfl, rfl⟩)
    | (go_at_call 73; refine (impl_ValidPoly g xs.length xs _ ((hr.alloc _).alloc _) hv).mono ?_; rintro e w1 ⟨rfl, hb⟩; obtain ⟨c1, c2, c3, c4, c5⟩ := two_cells hb))
  refine bodyPost_ret (v := .tuple #[.agg #[.slice (some ⟨g, 0, none⟩) xs.length xs.length], .bool true]) (by simp [results, Tryz.results71, go_sem, c1]) rfl ⟨rfl, ?_⟩
  exact (below_alloc2 hb).setCell (Nat.le_refl _) _

/-- A result that is a polynomial, and true. -/
def GivesP (ys : List C) (w : World) (e : Ending) (w' : World) : Prop :=
  ∃ g cap, e = .returned (.tuple #[.agg #[.slice (some ⟨g, 0, none⟩) ys.length cap], .bool true]) ∧ w.heap.size ≤ g ∧ Rd w' g ys ∧ Below w.heap.size w w' ∧ ys.length ≤ cap

set_option maxHeartbeats 1000000 in
theorem impl_SlopePoly (g cap : Nat) (xs ys : List C) (w : World) (hr : Rd w g xs) (hv : VP xs) (h : slopeO xs = some ys) (hvy : VP ys) :
    Calls Tryz.prog 47 #[.agg #[.slice (some ⟨g, 0, none⟩) xs.length cap]] w (GivesP ys w) := by
  have hn := hv.most
  have h1 := hv.pos
  have H := Lib.hid h
  clear h
  go_enter Tryz.func47, Tryz.ntmps47
  go_wp2_with (first
    | (go_at_call 73; refine (impl_ValidPoly g cap xs _ ((hr.alloc _).alloc _) hv).mono ?_; rintro e w1 ⟨rfl, hb⟩; obtain ⟨c1, c2, c3, c4, c5⟩ := two_cells hb; have hr1 := ((hr.alloc _).alloc _).below hb)
    | (go_at_call 99; refine (impl_slopeTerms g cap xs ys _ h1 (by omega) hr1 H.out).mono ?_; rintro e w2 ⟨g2, cap2, rfl, hg2, hr2, hb2, hcap2⟩)
    | (go_at_call 71; refine (impl_polyOf g2 cap2 ys w2 hcap2 hr2 hvy).mono ?_; rintro e w3 ⟨rfl, hb3⟩; have d3 := kc hb3 (kc hb2 c3); have d4 := kf hb3 (kc hb2 c3) (kf hb2 c3 c4)))
  refine bodyPost_ret (v := .tuple #[.agg #[.slice (some ⟨g2, 0, none⟩) ys.length ys.length], .bool true]) (by simp [results, Tryz.results47, go_sem, d3]) rfl ⟨g2, _, rfl, by omega, ?_, ?_, Nat.le_refl _⟩
  · exact (hr2.below hb3).setCell (by show g2 ≠ w.heap.size + 1; omega) _
  · exact ((below_trans (below_trans (below_alloc2 hb) hb2) hb3)).setCell (by simp) _

theorem at_eq {xs : List C} {k : Nat} (h : k < xs.length) : at_ xs k = xs[k] := by simp [at_, List.getD, h]

theorem appendN {w0 : World} {ops : Array Oper} {rest : List Oper} {o : Oper} {a : Act} {Q : Exit → Act → World → Prop} (hgd : o.guard = none) (s x : Operand)
    (ho : o.op = .call { callee := .builtin .append, args := #[s, x], argTypes := #[25, 25] })
    (base : Nat) (v : Value) (ys : List C) (hs : a.eval s = v) (hown : OwnC w0 base v ys) (g c : Nat) (zs : List C) (hx : a.eval x = .slice (some ⟨g, 0, none⟩) zs.length c) (hz : Rd w0 g zs) (h0 : 1 ≤ zs.length)
    (hlen : ys.length + zs.length < 1000) (hbase : base ≤ w0.heap.size)
    (h : ∀ v' w', OwnC w' base v' (ys ++ zs) → Below base w0 w' → wpList Tryz.prog ops Q rest (a.put o.dst v') w') :
    wpList Tryz.prog ops Q (o :: rest) a w0 := by
  obtain ⟨i0, hi, hz0, hz1, hz2⟩ := info_parts infoC
  obtain ⟨g', cap, rfl, hown⟩ := hown
  have hl := hown.lt g' rfl
  refine wpList_append_own w0 hgd s x 25 ho base 36 i0 (.complex .f32 0 0) 1 8 Tryz.underlying25 hi hz0 hz1 hz2 rfl (by decide) _ _ _ hs hown
    ⟨g, 0, none⟩ zs.length c (zs.map cv) hx (by simp) ?_ (by intro u hu; simp only [List.mem_map] at hu; obtain ⟨y, _, rfl⟩ := hu; rfl) (by simp [maxLen]; omega) (by omega) hbase ?_
  · intro j u hu
    simp only [List.getElem?_map, Option.map_eq_some_iff] at hu
    obtain ⟨y, hy, rfl⟩ := hu
    have hj : j < zs.length := (List.getElem?_eq_some_iff.1 hy).1
    have e : at_ zs j = y := by rw [at_eq hj]; exact (List.getElem?_eq_some_iff.1 hy).2
    have := hz.2 j hj
    rw [e] at this
    have ea : (⟨g, 0, none⟩ : Addr).add j = ⟨g, j, none⟩ := by unfold Addr.add; split <;> simp_all
    rw [ea]; exact this
  · intro v' w1 hown1 hg1 _
    refine h v' w1 ?_ ?_
    · rcases hown1.2 with ⟨_, hh⟩ | ⟨g2, cap', cur, rfl, _⟩
      · omega
      · exact ⟨g2, cap', by simp, by simpa using hown1⟩
    · exact (Below.refl _ _).grown hg1 hbase (fun k (hk : some g' = some k) => by injection hk with e; omega)

theorem spec_l02Trim (g cap : Nat) (xs : List C) (w : World) (hcap : xs.length ≤ cap) (hr : Rd w g xs) (hv : VP xs) :
    Calls Tryz.prog 92 #[.slice (some ⟨g, 0, none⟩) xs.length cap] w fun e w' => e = .returned (.slice (some ⟨g, 0, none⟩) xs.length cap) ∧ w = w' := by
  have hn := hv.most
  have h1 := hv.pos
  have hc := hr.2 (xs.length - 1) (by omega)
  rcases hv.last with h5 | h5
  · have h1' : decide ((1 : Int) < xs.length) = false := by simp; omega
    have H5 := Lib.hid h5
    clear h5
    go_enter Tryz.func92, Tryz.ntmps92
    go_wp2
    refine wp_loop_rounds 1 ?_
    rw [rounds_succ]
    go_wp2
    all_goals (first | (exfalso; have := H5.out; omega) | (go_ret; exact ⟨rfl, rfl⟩))
  · go_enter Tryz.func92, Tryz.ntmps92
    go_wp2
    refine wp_loop_rounds 1 ?_
    rw [rounds_succ]
    go_wp2
    all_goals (go_ret; exact ⟨rfl, rfl⟩)

/-- The result's cell, behind what the call makes. -/
theorem res_facts {w w1 : World} {v : Value} {T : TypeId} {o : Obj} (hb : Below (w.heap.size + 1) ((w.alloc (.cells #[v] T)).alloc o) w1) :
    w1.cell? ⟨w.heap.size, 0, none⟩ = some v ∧ w1.frozen? ⟨w.heap.size, 0, none⟩ = false ∧ w.heap.size + 2 ≤ w1.heap.size ∧ Below w.heap.size w w1 := by
  have hs := hb.size
  simp at hs
  refine ⟨?_, ?_, by omega, ?_⟩
  · rw [hb.cell (by simp), World.cell?_alloc_lt _ _ _ (by simp), new_cell]
  · rw [hb.frozen (by simp)]; go_simp
  · exact ((Below.refl w.heap.size w).alloc (Nat.le_refl _) _ |>.alloc (by simp) _).trans (hb.mono (by omega))

set_option maxHeartbeats 1000000 in
theorem spec_l02Give (g cap : Nat) (xs : List C) (w : World) (hcap : xs.length ≤ cap) (hr : Rd w g xs) (hv : VP xs) :
    Calls Tryz.prog 36 #[.slice (some ⟨g, 0, none⟩) xs.length cap] w (GivesP xs w) := by
  have hn := hv.most
  have h1 := hv.pos
  have hm := OwnC.made2 w (.slice none 0 0) 28
  go_enter Tryz.func36, Tryz.ntmps36
  go_wp2_with (first
    | (go_at_call 92; refine (spec_l02Trim g cap xs _ hcap ((hr.alloc _).alloc _) hv).mono ?_; rintro e w' ⟨rfl, rfl⟩)
    | (at_builtin; refine appendN rfl (.tmp 5) (.tmp 7) rfl (w.heap.size + 1) _ [] rfl hm g cap xs rfl ((hr.alloc _).alloc _) h1 (by simp; omega) (by simp) ?_; intro v' w1 hown0 hb1; have hown1 : OwnC w1 (w.heap.size + 1) v' xs := hown0; clear hown0; obtain ⟨g1, cap1, rfl, hbg1, hr1, hcp1⟩ := hown1.rd; obtain ⟨c1, c2, c3, hbw⟩ := res_facts hb1)
    | (go_at_call 63; refine (spec_l02Is w1.heap.size g1 cap1 xs _ (new_cell w1 _ _) (hr1.alloc _) hv).mono ?_; rintro e w' ⟨rfl, rfl⟩; have d1 := kca c1 (.cells #[.slice (some ⟨g1, 0, none⟩) xs.length cap1] 28); have d2 := kfa c1 c2 (.cells #[.slice (some ⟨g1, 0, none⟩) xs.length cap1] 28)))
  refine bodyPost_ret (v := .tuple #[.agg #[.slice (some ⟨g1, 0, none⟩) xs.length cap1], .bool true]) (by simp [results, Tryz.results36, go_sem, d1]) rfl ⟨g1, _, rfl, by omega, ?_, ?_, hcp1⟩
  · exact (hr1.alloc _).setCell (by show g1 ≠ w.heap.size; omega) _
  · exact (hbw.alloc hbw.size _).setCell (by simp) _

/-- Behind a box, a result's cell, an empty list, and what the call makes then. -/
theorem three_facts {w w1 : World} {u v : Value} {T S : TypeId} {o : Obj} (hb : Below (w.heap.size + 2) (((w.alloc (.cells #[u] T)).alloc (.cells #[v] S)).alloc o) w1) :
    w1.cell? ⟨w.heap.size, 0, none⟩ = some u ∧ w1.cell? ⟨w.heap.size + 1, 0, none⟩ = some v ∧ w1.frozen? ⟨w.heap.size + 1, 0, none⟩ = false ∧ w.heap.size + 3 ≤ w1.heap.size ∧ Below w.heap.size w w1 := by
  have hs := hb.size
  have e : (w.alloc (.cells #[u] T)).heap.size = w.heap.size + 1 := by simp
  simp at hs
  refine ⟨?_, ?_, ?_, by omega, ?_⟩
  · rw [hb.cell (by simp), World.cell?_alloc_lt _ _ _ (by simp; omega), World.cell?_alloc_lt _ _ _ (by simp), new_cell]
  · rw [hb.cell (by simp), World.cell?_alloc_lt _ _ _ (by simp), ← e, new_cell]
  · rw [hb.frozen (by simp)]; go_simp
  · exact ((Below.refl w.heap.size w).alloc (Nat.le_refl _) _ |>.alloc (by simp) _ |>.alloc (by simp; omega) _).trans (hb.mono (by omega))
theorem OwnC.made3 (w : World) (u v : Value) (T S : TypeId) : OwnC (((w.alloc (.cells #[u] T)).alloc (.cells #[v] S)).alloc (.cells #[] 36)) (w.heap.size + 2) (.slice (some ⟨w.heap.size + 2, 0, none⟩) 0 0) [] := by
  have e : ((w.alloc (.cells #[u] T)).alloc (.cells #[v] S)).heap.size = w.heap.size + 2 := by simp
  rw [← e]
  exact OwnC.made _ _ (Nat.le_refl _)

set_option maxHeartbeats 1000000 in
theorem spec_SlopePoly (g cap : Nat) (xs ys : List C) (w : World) (hr : Rd w g xs) (hv : VP xs) (h : slopeO xs = some ys) (hvy : VP ys) :
    Calls Tryz.prog 142 #[.agg #[.slice (some ⟨g, 0, none⟩) xs.length cap]] w (GivesP ys w) := by
  have hn := hv.most
  have h1 := hv.pos
  have H := Lib.hid h
  clear h
  have hp : ((w.alloc (.cells #[.slice (some ⟨g, 0, none⟩) xs.length cap] 28)).alloc (.cells #[.slice none 0 0] 28)).cell? ⟨w.heap.size, 0, none⟩ = some (.slice (some ⟨g, 0, none⟩) xs.length cap) := kca (new_cell w _ _) _
  have hr2 := (hr.alloc (.cells #[.slice (some ⟨g, 0, none⟩) xs.length cap] 28)).alloc (.cells #[.slice none 0 0] 28)
  have hm := OwnC.made3 w (.slice (some ⟨g, 0, none⟩) xs.length cap) (.slice none 0 0) 28 28
  go_enter Tryz.func142, Tryz.ntmps142
  go_wp2_with (go_at_call 63; refine (spec_l02Is w.heap.size g cap xs _ hp hr2 hv).mono ?_; rintro e w' ⟨rfl, rfl⟩)
  go_loopw [4, 5] (fun v i wr => ∃ (k : Nat) (l : List C), 1 ≤ k ∧ k ≤ xs.length ∧ Hid (slO xs (k - 1) = some l) ∧ OwnC wr (w.heap.size + 2) v l ∧ i = .int .i64 k ∧ Below (w.heap.size + 2) (((w.alloc (.cells #[.slice (some ⟨g, 0, none⟩) xs.length cap] 28)).alloc (.cells #[.slice none 0 0] 28)).alloc (.cells #[] 36)) wr) (fun _ i _ => xs.length - (intOf i).toNat)
  case atStart => exact ⟨1, [], by omega, by omega, Lib.hid rfl, hm, rfl, Below.refl _ _⟩
  case round =>
    obtain ⟨k, l, hk1, hk, hl, hown, rfl, hb⟩ := hrel
    have hll := slO_length hl.out
    obtain ⟨c1, c2, c3, c4, hbw⟩ := three_facts hb
    by_cases hlt : k < xs.length
    · have hx := (hr.below hbw).2 k hlt
      have hne : xs.length ≠ 1 := by omega
      have HY' : slO xs (xs.length - 1) = some ys := by have := H.out; rw [slopeO, if_neg hne] at this; exact this
      obtain ⟨x, hx1, hx2⟩ := slO_succ HY' (j := k - 1) (by omega) hl.out
      rw [show k - 1 + 1 = k from by omega] at hx1 hx2
      have HX1 := Lib.hid hx1
      have HX2 := Lib.hid hx2
      clear hx1 hx2 HY' hl c2 c3 hp
      go_wp2_with (first
        | (go_at_call 111; refine (spec_l01Scale (at_ xs k) x _ HX1.out _).mono ?_; rintro e w' ⟨rfl, rfl⟩)
        | (at_builtin; refine append1 rfl (.tmp 17) (.tmp 26) rfl (w.heap.size + 2) _ l rfl hown x rfl (by omega) (by omega) ?_; intro v' w1 hown1 hb1))
      go_roundw
      case rel => exact ⟨k + 1, l ++ [x], by omega, by omega, HX2, hown1, by go_num, hb.trans hb1⟩
      case measure => simp [intOf]; omega
    · have e : k = xs.length := by omega
      by_cases hne : xs.length = 1
      · have HY' := H.out
        rw [slopeO, if_pos hne] at HY'
        have hl0 : l = [] := List.eq_nil_of_length_eq_zero (by omega)
        obtain rfl : ys = [(0, 0)] := (Option.some.inj HY').symm
        subst hl0
        obtain ⟨g1, cap1, rfl, hown'⟩ := id hown
        clear hl HY' e hll hown' hp hk1
        go_wp2_with (first
          | (at_builtin; refine append1 rfl (.tmp 31) (.tmp 32) rfl (w.heap.size + 2) _ [] rfl hown (0, 0) rfl (by simp) (by omega) ?_; intro v' w1 hown0 hb1; have hown1 : OwnC w1 (w.heap.size + 2) v' [(0, 0)] := hown0; clear hown0; obtain ⟨g1, cap1, rfl, hbg, hr1, hcp1⟩ := hown1.rd; obtain ⟨c1, c2, c3, c4, hbw⟩ := three_facts (hb.trans hb1))
          | (go_at_call 36; refine (spec_l02Give g1 cap1 [(0, 0)] _ hcp1 hr1 hvy).mono ?_; rintro e w2 ⟨g2, cap2, rfl, hg2, hr2', hb2, hcap2⟩; have d1 := kc hb2 c2; have d2 := kf hb2 c2 c3))
        refine bodyPost_ret (v := .tuple #[.agg #[.slice (some ⟨g2, 0, none⟩) 1 cap2], .bool true]) (by simp [results, Tryz.results142, go_sem, d1]) rfl ⟨g2, _, rfl, by omega, ?_, ?_, hcap2⟩
        · exact hr2'.setCell (by show g2 ≠ w.heap.size + 1; omega) _
        · exact (below_trans hbw hb2).setCell (by simp) _
      · have HY' := H.out
        rw [slopeO, if_neg hne] at HY'
        have e2 : l = ys := Option.some.inj (by rw [← hl.out, e]; exact HY')
        subst e2
        obtain ⟨g1, cap1, rfl, hbg, hr1, hcp1⟩ := hown.rd
        have hd : ((l.length : Int) == 0) = false := beq_false_of_ne (by omega)
        have HL := Lib.hid hll
        clear hl HY' e hll hp
        go_wp2_with (go_at_call 36; refine (spec_l02Give g1 cap1 l _ hcp1 hr1 hvy).mono ?_; rintro e w2 ⟨g2, cap2, rfl, hg2, hr2', hb2, hcap2⟩; have d1 := kc hb2 c2; have d2 := kf hb2 c2 c3)
        refine bodyPost_ret (v := .tuple #[.agg #[.slice (some ⟨g2, 0, none⟩) l.length cap2], .bool true]) (by simp [results, Tryz.results142, go_sem, d1]) rfl ⟨g2, _, rfl, by omega, ?_, ?_, hcap2⟩
        · exact hr2'.setCell (by show g2 ≠ w.heap.size + 1; omega) _
        · exact (below_trans hbw hb2).setCell (by simp) _
end Go.Proofs.YtlhdgbiaiacpfaaGreat
