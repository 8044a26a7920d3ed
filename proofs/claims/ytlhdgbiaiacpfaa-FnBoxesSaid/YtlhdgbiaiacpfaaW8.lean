/- Lists that a call makes; the slope of a polynomial, the program's and the reference's. No condition but that the operations are valid and finite. -/
import Derived.Test.YtlhdgbiaiacpfaaW7
namespace Go.Proofs.Ytlhdgbiaiacpfaa
open Go.RowKit

/-- A slice of complex numbers of the call's own, from its block's head on. -/
def OwnC (w : World) (base : Nat) (v : Value) (ys : List C) : Prop :=
  ∃ g cap, v = .slice (some ⟨g, 0, none⟩) ys.length cap ∧ w.ownsRow base 31 1 v ys.length (ys.map cv)
theorem infoC : (Try.prog.info? 31).map (fun i => (i.zero, i.size, i.bytes)) = some (some (.complex .f32 0 0), 1, 8) := by kernel_rfl

theorem OwnC.rd {w : World} {base : Nat} {v : Value} {ys : List C} (h : OwnC w base v ys) : ∃ g cap, v = .slice (some ⟨g, 0, none⟩) ys.length cap ∧ base ≤ g ∧ Rd w g ys ∧ ys.length ≤ cap := by
  obtain ⟨g, cap, rfl, h⟩ := h
  have hl := h.lt g (by rfl)
  have hc : ys.length ≤ cap := by
    rcases h.2 with ⟨hv, _⟩ | ⟨g', cap', cur, hv, _, _, h3, _⟩
    · cases hv
    · injection hv with _ _ e; omega
  refine ⟨g, cap, rfl, hl.1, ⟨hl.2, fun k hk => ?_⟩, hc⟩
  rw [h.cellAt k (by omega)]
  simp [at_, List.getD, hk]
theorem OwnC.made (w : World) (base : Nat) (hb : base ≤ w.heap.size) : OwnC (w.alloc (.cells #[] 31)) base (.slice (some ⟨w.heap.size, 0, none⟩) 0 0) [] :=
  ⟨_, 0, rfl, World.ownsRow_made w #[] 0 hb (by simp [maxLen]) rfl⟩
theorem OwnC.made2 (w : World) (v : Value) (T : TypeId) : OwnC ((w.alloc (.cells #[v] T)).alloc (.cells #[] 31)) (w.heap.size + 1) (.slice (some ⟨w.heap.size + 1, 0, none⟩) 0 0) [] := by
  have e : (w.alloc (.cells #[v] T)).heap.size = w.heap.size + 1 := by simp
  rw [← e]
  exact OwnC.made _ _ (Nat.le_refl _)
theorem OwnC.below {w w' : World} {base : Nat} {v : Value} {ys : List C} (h : OwnC w base v ys) (hb : Below w.heap.size w w') : OwnC w' base v ys := by
  obtain ⟨g, cap, rfl, h⟩ := h
  exact ⟨g, cap, rfl, h.kept (row := none) ⟨hb.os, hb.tape, hb.output, hb.size, fun k hk _ => hb.block k hk⟩ (by simp [Value.ownBlock])⟩
theorem OwnC.drew {w : World} {base : Nat} {v : Value} {ys : List C} (h : OwnC w base v ys) : OwnC w.drew base v ys := h
theorem OwnC.drewN {w : World} {base n : Nat} {v : Value} {ys : List C} (h : OwnC w base v ys) : OwnC (w.drewN n) base v ys := h
theorem OwnC.alloc {w : World} {base : Nat} {v : Value} {ys : List C} (h : OwnC w base v ys) (o : Obj) : OwnC (w.alloc o) base v ys := h.below ((Below.refl _ _).alloc (Nat.le_refl _) _)

theorem append1 {w0 : World} {ops : Array Oper} {rest : List Oper} {o : Oper} {a : Act} {Q : Exit → Act → World → Prop} (hgd : o.guard = none) (s x : Operand)
    (ho : o.op = .call { callee := .builtin .append, args := #[s, x], argTypes := #[25, 25] })
    (base : Nat) (v : Value) (ys : List C) (hs : a.eval s = v) (hown : OwnC w0 base v ys) (r : C) (hx : a.eval x = .slice (some ⟨w0.heap.size, 0, none⟩) 1 1)
    (hlen : ys.length < 1000) (hbase : base ≤ w0.heap.size)
    (h : ∀ v' w', OwnC w' base v' (ys ++ [r]) → Below base w0 w' → wpList Try.prog ops Q rest (a.put o.dst v') w') :
    wpList Try.prog ops Q (o :: rest) a (w0.alloc (.cells #[cv r] 31)) := by
  obtain ⟨i0, hi, hz0, hz1, hz2⟩ := info_parts infoC
  obtain ⟨g, cap, rfl, hown⟩ := hown
  have hl := hown.lt g rfl
  refine wpList_append_own (w0.alloc (.cells #[cv r] 31)) hgd s x 25 ho base 31 i0 (.complex .f32 0 0) 1 8 Try.underlying25 hi hz0 hz1 hz2 rfl (by decide) _ _ _ hs (hown.alloc _)
    ⟨w0.heap.size, 0, none⟩ 1 1 [cv r] hx rfl ?_ (by intro u hu; simp at hu; subst hu; rfl) (by simp [maxLen]; omega) (by omega) (by simp; omega) ?_
  · intro j u hu
    have : j = 0 := by
      rcases j with _ | j
      · rfl
      · simp at hu
    subst this
    simp at hu
    subst hu
    exact new_cell w0 (cv r) _
  · intro v' w1 hown1 hg1 _
    refine h v' w1 ?_ ?_
    · rcases hown1.2 with ⟨_, h0⟩ | ⟨g', cap', cur, rfl, _⟩
      · omega
      · exact ⟨g', cap', by simp, by simpa using hown1⟩
    · exact ((Below.refl _ _).alloc hbase _).grown hg1 (by simp; omega) (fun k (hk : some g = some k) => by injection hk with e; omega)

/-- The first j terms of the slope, before they are trimmed. -/
def slO (xs : List C) : Nat → Option (List C)
  | 0 => some []
  | j + 1 => (slO xs j).bind fun l => (scaleO (at_ xs (j + 1)) (floatOfInt .f32 ((j + 1 : Nat) : Int))).bind fun x => some (l ++ [x])
theorem slO_some {xs : List C} {r : List C} : ∀ {n j : Nat}, slO xs n = some r → j ≤ n → ∃ v, slO xs j = some v := by
  intro n j
  induction n generalizing r with
  | zero => intro h hj; obtain rfl : j = 0 := by omega
            exact ⟨r, h⟩
  | succ n ih =>
    intro h hj
    by_cases e : j = n + 1
    · subst e; exact ⟨r, h⟩
    · simp only [slO, Option.bind_eq_some_iff] at h
      obtain ⟨v, hv, _⟩ := h
      exact ih hv (by omega)
theorem slO_succ {xs : List C} {r : List C} {n j : Nat} (h : slO xs n = some r) (hj : j < n) {l : List C} (hl : slO xs j = some l) :
    ∃ x, scaleO (at_ xs (j + 1)) (floatOfInt .f32 ((j + 1 : Nat) : Int)) = some x ∧ slO xs (j + 1) = some (l ++ [x]) := by
  obtain ⟨u, hu⟩ := slO_some h (j := j + 1) (by omega)
  have hu' := hu
  simp only [slO, hl, Option.bind_some, Option.bind_eq_some_iff, Option.some.injEq] at hu'
  obtain ⟨x, hx, rfl⟩ := hu'
  exact ⟨x, hx, hu⟩
theorem slO_length {xs : List C} : ∀ {j : Nat} {l : List C}, slO xs j = some l → l.length = j := by
  intro j
  induction j with
  | zero => intro l h; simp [slO] at h; subst h; rfl
  | succ j ih =>
    intro l h
    simp only [slO, Option.bind_eq_some_iff, Option.some.injEq] at h
    obtain ⟨l', hl', x, hx, rfl⟩ := h
    simp [ih hl']
/-- The terms of the slope, before they are trimmed. -/
def slopeO (xs : List C) : Option (List C) := if xs.length = 1 then some [(0, 0)] else slO xs (xs.length - 1)

/-- A result that is a slice of complex numbers. -/
def GivesC (ys : List C) (w : World) (e : Ending) (w' : World) : Prop :=
  ∃ g cap, e = .returned (.slice (some ⟨g, 0, none⟩) ys.length cap) ∧ w.heap.size ≤ g ∧ Rd w' g ys ∧ Below w.heap.size w w' ∧ ys.length ≤ cap

/-- Two blocks of one cell, behind calls. -/
theorem two_cells {w w1 : World} {u v : Value} {T S : TypeId} (hb : Below ((w.alloc (.cells #[u] T)).alloc (.cells #[v] S)).heap.size ((w.alloc (.cells #[u] T)).alloc (.cells #[v] S)) w1) :
    w1.cell? ⟨w.heap.size, 0, none⟩ = some u ∧ w1.frozen? ⟨w.heap.size, 0, none⟩ = false ∧ w1.cell? ⟨w.heap.size + 1, 0, none⟩ = some v ∧ w1.frozen? ⟨w.heap.size + 1, 0, none⟩ = false ∧ w.heap.size + 1 < w1.heap.size := by
  have e : (w.alloc (.cells #[u] T)).heap.size = w.heap.size + 1 := by simp
  have hs := hb.size
  simp at hs
  refine ⟨?_, ?_, ?_, ?_, by omega⟩
  · rw [hb.cell (by simp; omega), World.cell?_alloc_lt _ _ _ (by simp), new_cell]
  · rw [hb.frozen (by simp; omega)]; go_simp
  · rw [hb.cell (by simp), ← e, new_cell]
  · rw [hb.frozen (by simp)]; go_simp
theorem below_alloc2 {w w' : World} {o o2 : Obj} (h : Below ((w.alloc o).alloc o2).heap.size ((w.alloc o).alloc o2) w') : Below w.heap.size w w' :=
  below_alloc (below_alloc h |>.mono (Nat.le_refl _))

theorem kc {w w' : World} {b : Nat} {v : Value} (hb : Below w.heap.size w w') (h : w.cell? ⟨b, 0, none⟩ = some v) : w'.cell? ⟨b, 0, none⟩ = some v :=
  (hb.cell (p := ⟨b, 0, none⟩) (World.block_lt_of_cell? w _ h)).trans h
theorem kf {w w' : World} {b : Nat} {v : Value} (hb : Below w.heap.size w w') (h : w.cell? ⟨b, 0, none⟩ = some v) (hf : w.frozen? ⟨b, 0, none⟩ = false) : w'.frozen? ⟨b, 0, none⟩ = false :=
  (hb.frozen (p := ⟨b, 0, none⟩) (World.block_lt_of_cell? w _ h)).trans hf

theorem kca {w : World} {b : Nat} {v : Value} (h : w.cell? ⟨b, 0, none⟩ = some v) (o : Obj) : (w.alloc o).cell? ⟨b, 0, none⟩ = some v := kc ((Below.refl _ _).alloc (Nat.le_refl _) o) h
theorem kfa {w : World} {b : Nat} {v : Value} (h : w.cell? ⟨b, 0, none⟩ = some v) (hf : w.frozen? ⟨b, 0, none⟩ = false) (o : Obj) : (w.alloc o).frozen? ⟨b, 0, none⟩ = false := kf ((Below.refl _ _).alloc (Nat.le_refl _) o) h hf

/-- A result that is a polynomial, and true. -/
def GivesP (ys : List C) (w : World) (e : Ending) (w' : World) : Prop :=
  ∃ g cap, e = .returned (.tuple #[.agg #[.slice (some ⟨g, 0, none⟩) ys.length cap], .bool true]) ∧ w.heap.size ≤ g ∧ Rd w' g ys ∧ Below w.heap.size w w' ∧ ys.length ≤ cap

theorem at_eq {xs : List C} {k : Nat} (h : k < xs.length) : at_ xs k = xs[k] := by simp [at_, List.getD, h]

theorem appendN {w0 : World} {ops : Array Oper} {rest : List Oper} {o : Oper} {a : Act} {Q : Exit → Act → World → Prop} (hgd : o.guard = none) (s x : Operand)
    (ho : o.op = .call { callee := .builtin .append, args := #[s, x], argTypes := #[25, 25] })
    (base : Nat) (v : Value) (ys : List C) (hs : a.eval s = v) (hown : OwnC w0 base v ys) (g c : Nat) (zs : List C) (hx : a.eval x = .slice (some ⟨g, 0, none⟩) zs.length c) (hz : Rd w0 g zs) (h0 : 1 ≤ zs.length)
    (hlen : ys.length + zs.length < 1000) (hbase : base ≤ w0.heap.size)
    (h : ∀ v' w', OwnC w' base v' (ys ++ zs) → Below base w0 w' → wpList Try.prog ops Q rest (a.put o.dst v') w') :
    wpList Try.prog ops Q (o :: rest) a w0 := by
  obtain ⟨i0, hi, hz0, hz1, hz2⟩ := info_parts infoC
  obtain ⟨g', cap, rfl, hown⟩ := hown
  have hl := hown.lt g' rfl
  refine wpList_append_own w0 hgd s x 25 ho base 31 i0 (.complex .f32 0 0) 1 8 Try.underlying25 hi hz0 hz1 hz2 rfl (by decide) _ _ _ hs hown
    ⟨g, 0, none⟩ zs.length c (zs.map cv) hx (by simp) ?_ (by intro u hu; simp only [List.mem_map] at hu; obtain ⟨y, _, rfl⟩ := hu; rfl) (by simp [maxLen]; omega) (by omega) hbase ?_
  · intro j u hu
    simp only [List.getElem?_map, Option.map_eq_some_iff] at hu
    obtain ⟨y, hy, rfl⟩ := hu
    have hj : j < zs.length := (List.getElem?_eq_some_iff.1 hy).1
    have e : at_ zs j = y := by rw [at_eq hj]; exact (List.getElem?_eq_some_iff.1 hy).2
    have := hz.2 j hj
    rw [e] at this
    have ea : (⟨g, 0, none⟩ : Addr).add j = ⟨g, j, none⟩ := by unfold Addr.add; split <;> simp_all
    rw [ea]; exact this
  · intro v' w1 hown1 hg1 _
    refine h v' w1 ?_ ?_
    · rcases hown1.2 with ⟨_, hh⟩ | ⟨g2, cap', cur, rfl, _⟩
      · omega
      · exact ⟨g2, cap', by simp, by simpa using hown1⟩
    · exact (Below.refl _ _).grown hg1 hbase (fun k (hk : some g' = some k) => by injection hk with e; omega)

theorem spec_l02Trim (g cap : Nat) (xs : List C) (w : World) (hcap : xs.length ≤ cap) (hr : Rd w g xs) (hv : VP xs) :
    Calls Try.prog 44 #[.slice (some ⟨g, 0, none⟩) xs.length cap] w fun e w' => e = .returned (.slice (some ⟨g, 0, none⟩) xs.length cap) ∧ w = w' := by
  have hn := hv.most
  have h1 := hv.pos
  have hc := hr.2 (xs.length - 1) (by omega)
  rcases hv.last with h5 | h5
  · have h1' : decide ((1 : Int) < xs.length) = false := by simp; omega
    have H5 := Lib.hid h5
    clear h5
    go_enter Try.func44, Try.ntmps44
    go_wp2
    refine wp_loop_rounds 1 ?_
    rw [rounds_succ]
    go_wp2
    all_goals (first | (exfalso; have := H5.out; omega) | (go_ret; exact ⟨rfl, rfl⟩))
  · go_enter Try.func44, Try.ntmps44
    go_wp2
    refine wp_loop_rounds 1 ?_
    rw [rounds_succ]
    go_wp2
    all_goals (go_ret; exact ⟨rfl, rfl⟩)

/-- The result's cell, behind what the call makes. -/
theorem res_facts {w w1 : World} {v : Value} {T : TypeId} {o : Obj} (hb : Below (w.heap.size + 1) ((w.alloc (.cells #[v] T)).alloc o) w1) :
    w1.cell? ⟨w.heap.size, 0, none⟩ = some v ∧ w1.frozen? ⟨w.heap.size, 0, none⟩ = false ∧ w.heap.size + 2 ≤ w1.heap.size ∧ Below w.heap.size w w1 := by
  have hs := hb.size
  simp at hs
  refine ⟨?_, ?_, by omega, ?_⟩
  · rw [hb.cell (by simp), World.cell?_alloc_lt _ _ _ (by simp), new_cell]
  · rw [hb.frozen (by simp)]; go_simp
  · exact ((Below.refl w.heap.size w).alloc (Nat.le_refl _) _ |>.alloc (by simp) _).trans (hb.mono (by omega))

set_option maxHeartbeats 1000000 in
theorem spec_l02Give (g cap : Nat) (xs : List C) (w : World) (hcap : xs.length ≤ cap) (hr : Rd w g xs) (hv : VP xs) :
    Calls Try.prog 20 #[.slice (some ⟨g, 0, none⟩) xs.length cap] w (GivesP xs w) := by
  have hn := hv.most
  have h1 := hv.pos
  have hm := OwnC.made2 w (.slice none 0 0) 28
  go_enter Try.func20, Try.ntmps20
  go_wp2_with (first
    | (go_at_call 44; refine (spec_l02Trim g cap xs _ hcap ((hr.alloc _).alloc _) hv).mono ?_; rintro e w' ⟨rfl, rfl⟩)
    | (at_builtin; refine appendN rfl (.tmp 5) (.tmp 7) rfl (w.heap.size + 1) _ [] rfl hm g cap xs rfl ((hr.alloc _).alloc _) h1 (by simp; omega) (by simp) ?_; intro v' w1 hown0 hb1; have hown1 : OwnC w1 (w.heap.size + 1) v' xs := hown0; clear hown0; obtain ⟨g1, cap1, rfl, hbg1, hr1, hcp1⟩ := hown1.rd; obtain ⟨c1, c2, c3, hbw⟩ := res_facts hb1)
    | (go_at_call 45; refine (spec_l02Is w1.heap.size g1 cap1 xs _ (new_cell w1 _ _) (hr1.alloc _) hv).mono ?_; rintro e w' ⟨rfl, rfl⟩; have d1 := kca c1 (.cells #[.slice (some ⟨g1, 0, none⟩) xs.length cap1] 28); have d2 := kfa c1 c2 (.cells #[.slice (some ⟨g1, 0, none⟩) xs.length cap1] 28)))
  refine bodyPost_ret (v := .tuple #[.agg #[.slice (some ⟨g1, 0, none⟩) xs.length cap1], .bool true]) (by simp [results, Try.results20, go_sem, d1]) rfl ⟨g1, _, rfl, by omega, ?_, ?_, hcp1⟩
  · exact (hr1.alloc _).setCell (by show g1 ≠ w.heap.size; omega) _
  · exact (hbw.alloc hbw.size _).setCell (by simp) _

/-- Behind a box, a result's cell, an empty list, and what the call makes then. -/
theorem three_facts {w w1 : World} {u v : Value} {T S : TypeId} {o : Obj} (hb : Below (w.heap.size + 2) (((w.alloc (.cells #[u] T)).alloc (.cells #[v] S)).alloc o) w1) :
    w1.cell? ⟨w.heap.size, 0, none⟩ = some u ∧ w1.cell? ⟨w.heap.size + 1, 0, none⟩ = some v ∧ w1.frozen? ⟨w.heap.size + 1, 0, none⟩ = false ∧ w.heap.size + 3 ≤ w1.heap.size ∧ Below w.heap.size w w1 := by
  have hs := hb.size
  have e : (w.alloc (.cells #[u] T)).heap.size = w.heap.size + 1 := by simp
  simp at hs
  refine ⟨?_, ?_, ?_, by omega, ?_⟩
  · rw [hb.cell (by simp), World.cell?_alloc_lt _ _ _ (by simp; omega), World.cell?_alloc_lt _ _ _ (by simp), new_cell]
  · rw [hb.cell (by simp), World.cell?_alloc_lt _ _ _ (by simp), ← e, new_cell]
  · rw [hb.frozen (by simp)]; go_simp
  · exact ((Below.refl w.heap.size w).alloc (Nat.le_refl _) _ |>.alloc (by simp) _ |>.alloc (by simp; omega) _).trans (hb.mono (by omega))
theorem OwnC.made3 (w : World) (u v : Value) (T S : TypeId) : OwnC (((w.alloc (.cells #[u] T)).alloc (.cells #[v] S)).alloc (.cells #[] 31)) (w.heap.size + 2) (.slice (some ⟨w.heap.size + 2, 0, none⟩) 0 0) [] := by
  have e : ((w.alloc (.cells #[u] T)).alloc (.cells #[v] S)).heap.size = w.heap.size + 2 := by simp
  rw [← e]
  exact OwnC.made _ _ (Nat.le_refl _)

end Go.Proofs.Ytlhdgbiaiacpfaa
