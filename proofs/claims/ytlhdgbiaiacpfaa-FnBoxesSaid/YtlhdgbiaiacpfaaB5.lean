/- Lists of counts that a call makes; the quarters of a box. No condition but that the operations are valid and finite. -/
import Derived.Test.YtlhdgbiaiacpfaaB4
namespace Go.Proofs.Ytlhdgbiaiacpfaa
open Go.RowKit

def iv (x : Int) : Value := .int .i64 x
/-- A block holds a list of whole numbers. -/
def RdI (w : World) (g : Nat) (xs : List Int) : Prop := g < w.heap.size ∧ ∀ k, k < xs.length → w.cell? ⟨g, k, none⟩ = some (iv (xs.getD k 0))
theorem RdI.below {w w' : World} {g : Nat} {xs : List Int} (h : RdI w g xs) (hb : Below w.heap.size w w') : RdI w' g xs :=
  ⟨Nat.lt_of_lt_of_le h.1 hb.size, fun k hk => (hb.cell (p := ⟨g, k, none⟩) h.1).trans (h.2 k hk)⟩
/-- A slice of whole numbers of the call's own, from its block's head on. -/
def OwnI (w : World) (base : Nat) (v : Value) (ys : List Int) : Prop :=
  ∃ g cap, v = .slice (some ⟨g, 0, none⟩) ys.length cap ∧ w.ownsRow base 2 1 v ys.length (ys.map iv)
theorem infoI : (Try.prog.info? 2).map (fun i => (i.zero, i.size, i.bytes)) = some (some (.int .i64 0), 1, 8) := by kernel_rfl
theorem OwnI.rd {w : World} {base : Nat} {v : Value} {ys : List Int} (h : OwnI w base v ys) : ∃ g cap, v = .slice (some ⟨g, 0, none⟩) ys.length cap ∧ base ≤ g ∧ RdI w g ys ∧ ys.length ≤ cap := by
  obtain ⟨g, cap, rfl, h⟩ := h
  have hl := h.lt g (by rfl)
  have hc : ys.length ≤ cap := by
    rcases h.2 with ⟨hv, _⟩ | ⟨g', cap', cur, hv, _, _, h3, _⟩
    · cases hv
    · injection hv with _ _ e; omega
  refine ⟨g, cap, rfl, hl.1, ⟨hl.2, fun k hk => ?_⟩, hc⟩
  rw [h.cellAt k (by omega)]
  simp [List.getD, hk]
theorem OwnI.made (w : World) (base : Nat) (hb : base ≤ w.heap.size) : OwnI (w.alloc (.cells #[] 2)) base (.slice (some ⟨w.heap.size, 0, none⟩) 0 0) [] :=
  ⟨_, 0, rfl, World.ownsRow_made w #[] 0 hb (by simp [maxLen]) rfl⟩
theorem OwnI.below {w w' : World} {base : Nat} {v : Value} {ys : List Int} (h : OwnI w base v ys) (hb : Below w.heap.size w w') : OwnI w' base v ys := by
  obtain ⟨g, cap, rfl, h⟩ := h
  exact ⟨g, cap, rfl, h.kept (row := none) ⟨hb.os, hb.tape, hb.output, hb.size, fun k hk _ => hb.block k hk⟩ (by simp [Value.ownBlock])⟩
theorem OwnI.drew {w : World} {base : Nat} {v : Value} {ys : List Int} (h : OwnI w base v ys) : OwnI w.drew base v ys := h
theorem OwnI.drewN {w : World} {base n : Nat} {v : Value} {ys : List Int} (h : OwnI w base v ys) : OwnI (w.drewN n) base v ys := h
theorem OwnI.alloc {w : World} {base : Nat} {v : Value} {ys : List Int} (h : OwnI w base v ys) (o : Obj) : OwnI (w.alloc o) base v ys := h.below ((Below.refl _ _).alloc (Nat.le_refl _) _)
theorem appendI {w0 : World} {ops : Array Oper} {rest : List Oper} {o : Oper} {a : Act} {Q : Exit → Act → World → Prop} (hgd : o.guard = none) (s x : Operand)
    (ho : o.op = .call { callee := .builtin .append, args := #[s, x], argTypes := #[39, 39] })
    (base : Nat) (v : Value) (ys : List Int) (hs : a.eval s = v) (hown : OwnI w0 base v ys) (r : Int) (hx : a.eval x = .slice (some ⟨w0.heap.size, 0, none⟩) 1 1)
    (hlen : ys.length < 1000) (hbase : base ≤ w0.heap.size)
    (h : ∀ v' w', OwnI w' base v' (ys ++ [r]) → Below base w0 w' → (∀ k, k < w0.heap.size → (∀ n c, v ≠ .slice (some ⟨k, 0, none⟩) n c) → w'.heap[k]? = w0.heap[k]?) → wpList Try.prog ops Q rest (a.put o.dst v') w') :
    wpList Try.prog ops Q (o :: rest) a (w0.alloc (.cells #[iv r] 2)) := by
  obtain ⟨i0, hi, hz0, hz1, hz2⟩ := info_parts infoI
  obtain ⟨g, cap, rfl, hown⟩ := hown
  have hl := hown.lt g rfl
  refine wpList_append_own (w0.alloc (.cells #[iv r] 2)) hgd s x 39 ho base 2 i0 (.int .i64 0) 1 8 Try.underlying39 hi hz0 hz1 hz2 rfl (by decide) _ _ _ hs (hown.alloc _)
    ⟨w0.heap.size, 0, none⟩ 1 1 [iv r] hx rfl ?_ (by intro u hu; simp at hu; subst hu; rfl) (by simp [maxLen]; omega) (by omega) (by simp; omega) ?_
  · intro j u hu
    have : j = 0 := by
      rcases j with _ | j
      · rfl
      · simp at hu
    subst this
    simp at hu
    subst hu
    exact new_cell w0 (iv r) _
  · intro v' w1 hown1 hg1 _
    refine h v' w1 ?_ ?_ ?_
    · rcases hown1.2 with ⟨_, h0⟩ | ⟨g', cap', cur, rfl, _⟩
      · omega
      · exact ⟨g', cap', by simp, by simpa using hown1⟩
    · exact ((Below.refl _ _).alloc hbase _).grown hg1 (by simp; omega) (fun k (hk : some g = some k) => by injection hk with e; omega)
    · intro k hk hne
      have e1 : k ≠ g := by rintro rfl; exact hne _ _ rfl
      rw [hg1.block k (by simp; omega) (fun (e : some k = some g) => by injection e with e; exact e1 e)]
      exact ((Below.refl w0.heap.size w0).alloc (Nat.le_refl _) (.cells #[iv r] 2)).block k hk

/-- The low and the high corners of the quarters: m is the middle. -/
def qlo (low m : C) : Nat → C
  | 0 => low
  | 1 => (m.1, low.2)
  | 2 => (low.1, m.2)
  | _ => m
def qhi (m high : C) : Nat → C
  | 0 => m
  | 1 => (high.1, m.2)
  | 2 => (m.1, high.2)
  | _ => high
/-- The middle. -/
def midO (low high : C) : Option C := (plusO low high).bind fun u => scaleO u 1056964608
/-- A block holds the corners of the quarters, pair by pair. -/
def Pairs (w : World) (g : Nat) (low m high : C) : Prop := g < w.heap.size ∧ ∀ k, k < 4 → w.cell? ⟨g, k * 2, none⟩ = some (cv (qlo low m k)) ∧ w.cell? ⟨g, k * 2 + 1, none⟩ = some (cv (qhi m high k))

theorem Pairs.below {w w' : World} {g : Nat} {low m high : C} (h : Pairs w g low m high) (hb : Below w.heap.size w w') : Pairs w' g low m high :=
  ⟨Nat.lt_of_lt_of_le h.1 hb.size, fun k hk => ⟨(hb.cell (p := ⟨g, k * 2, none⟩) h.1).trans (h.2 k hk).1, (hb.cell (p := ⟨g, k * 2 + 1, none⟩) h.1).trans (h.2 k hk).2⟩⟩
theorem Pairs.same {w w' : World} {g : Nat} {low m high : C} (h : Pairs w g low m high) (hs : w.heap.size ≤ w'.heap.size) (hb : w'.heap[g]? = w.heap[g]?) : Pairs w' g low m high :=
  ⟨Nat.lt_of_lt_of_le h.1 hs, fun k hk => ⟨(World.cell?_of_block (w := w) (a := ⟨g, k * 2, none⟩) hb).trans (h.2 k hk).1, (World.cell?_of_block (w := w) (a := ⟨g, k * 2 + 1, none⟩) hb).trans (h.2 k hk).2⟩⟩
/-- A list of whole numbers lies in another block. -/
theorem OwnI.ne {w : World} {base gq : Nat} {v : Value} {ys : List Int} {low m high : C} (h : OwnI w base v ys) (h0 : ys ≠ []) (hp : Pairs w gq low m high) : ∀ n c, v ≠ .slice (some ⟨gq, 0, none⟩) n c := by
  obtain ⟨g, cap, rfl, _, hr, _⟩ := h.rd
  intro n c e
  injection e with e1 _ _
  injection e1 with e1
  injection e1 with e1 _ _
  subst e1
  have h1 := (hp.2 0 (by omega)).1
  have h2 := hr.2 0 (List.length_pos_iff.2 h0)
  rw [show 0 * 2 = 0 from rfl, h2] at h1
  simp [iv, cv] at h1

theorem impl_fourBoxes (low high m : C) (w : World) (h : midO low high = some m) :
    Calls Try.prog 36 #[cv low, cv high] w fun e w' => ∃ g, e = .returned (.slice (some ⟨g, 0, none⟩) 4 4) ∧ Pairs w' g low m high ∧ Below w.heap.size w w' ∧ w.heap.size ≤ g := by
  unfold midO at h
  rw [Option.bind_eq_some_iff] at h
  obtain ⟨u, h1, h2⟩ := h
  go_enter Try.func36, Try.ntmps36
  go_wp2_with (first
    | (go_at_call 29; (with_reducible refine (impl_plus low high u h1 _).mono ?_); rintro e w' ⟨rfl, rfl⟩)
    | (go_at_call 30; (with_reducible refine (impl_ScaleComplex u m 1056964608 h2 _).mono ?_); rintro e w' ⟨rfl, rfl⟩))
  go_ret
  refine ⟨_, rfl, ⟨by simp, fun k hk => ?_⟩, (Below.refl _ _).alloc (Nat.le_refl _) _, Nat.le_refl _⟩
  rw [cell_of_row _ _ _ _ _ _ (heap_alloc_new w _), cell_of_row _ _ _ _ _ _ (heap_alloc_new w _)]
  obtain rfl | rfl | rfl | rfl : k = 0 ∨ k = 1 ∨ k = 2 ∨ k = 3 := by omega
  all_goals exact ⟨rfl, rfl⟩

theorem spec_l05Quarters (low high m : C) (w : World) (h : midO low high = some m) :
    Calls Try.prog 38 #[cv low, cv high] w fun e w' => ∃ g g', e = .returned (.tuple #[.slice (some ⟨g, 0, none⟩) 4 4, .slice (some ⟨g', 0, none⟩) 4 4]) ∧ Rd w' g [qlo low m 0, qlo low m 1, qlo low m 2, qlo low m 3] ∧ Rd w' g' [qhi m high 0, qhi m high 1, qhi m high 2, qhi m high 3] ∧ Below w.heap.size w w' := by
  unfold midO at h
  rw [Option.bind_eq_some_iff] at h
  obtain ⟨u, h1, h2⟩ := h
  go_enter Try.func38, Try.ntmps38
  go_wp2_with (go_at_call 62; (with_reducible refine (spec_l02Times u m 1056964608 h2 _).mono ?_); rintro e w' ⟨rfl, rfl⟩)
  go_ret2
  refine ⟨_, _, rfl, ?_, ?_, ((Below.refl _ _).alloc (Nat.le_refl _) _).alloc (by simp) _⟩
  · refine Rd.alloc ⟨by simp, fun k hk => ?_⟩ _
    rw [cell_of_row _ _ _ _ _ _ (heap_alloc_new w _)]
    obtain rfl | rfl | rfl | rfl : k = 0 ∨ k = 1 ∨ k = 2 ∨ k = 3 := by simp at hk; omega
    all_goals rfl
  · refine ⟨by simp, fun k hk => ?_⟩
    have e : w.heap.size + 1 = (w.alloc (.cells #[cv low, .complex .f32 m.1 low.2, .complex .f32 low.1 m.2, cv m] 31)).heap.size := by simp
    rw [e, cell_of_row _ _ _ _ _ _ (heap_alloc_new _ _)]
    obtain rfl | rfl | rfl | rfl : k = 0 ∨ k = 1 ∨ k = 2 ∨ k = 3 := by simp at hk; omega
    all_goals rfl
end Go.Proofs.Ytlhdgbiaiacpfaa
