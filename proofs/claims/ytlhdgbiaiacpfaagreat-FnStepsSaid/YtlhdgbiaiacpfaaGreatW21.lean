/- The division by the variable less a number: its chain and its contract. No condition but that the operations are valid and finite. -/
import Derived.Test.YtlhdgbiaiacpfaaGreatW20
import Derived.Laws.OwnMore
import Derived.Laws.MakeOwn
namespace Go.Proofs.YtlhdgbiaiacpfaaGreat
open Go.RowKit

/-- Block g holds the list and may be written. -/
def Wr (w : World) (g : Nat) (xs : List C) : Prop := Rd w g xs ∧ ∀ k, k < xs.length → w.frozen? ⟨g, k, none⟩ = false
theorem at_set {xs : List C} {k j : Nat} {x : C} (hk : k < xs.length) : at_ (xs.set k x) j = if k = j then x else at_ xs j := by
  simp only [at_, List.getD, List.getElem?_set]
  by_cases e : k = j
  · subst e; simp [hk]
  · simp [e]
theorem Wr.set {w : World} {g : Nat} {xs : List C} (h : Wr w g xs) {k : Nat} (hk : k < xs.length) (x : C) : Wr (w.setCell ⟨g, k, none⟩ (cv x)) g (xs.set k x) := by
  obtain ⟨⟨h1, h2⟩, h3⟩ := h
  refine ⟨⟨by simpa [World.setCell] using h1, fun j hj => ?_⟩, fun j hj => ?_⟩
  · simp at hj
    rw [at_set hk]
    by_cases e : k = j
    · subst e
      have := h2 k hk
      rw [if_pos rfl]
      go_simp
    · rw [if_neg e]
      have hne : (⟨g, k, none⟩ : Addr) ≠ ⟨g, j, none⟩ := by simp [e]
      have := h2 j hj
      go_simp
  · simp at hj
    have := h3 j hj
    go_simp
theorem Wr.other {w : World} {g : Nat} {xs : List C} (h : Wr w g xs) {p : Addr} (hp : g ≠ p.block) (u : Value) : Wr (w.setCell p u) g xs :=
  ⟨h.1.setCell hp u, fun k hk => by have := h.2 k hk; go_simp⟩
theorem Wr.drew {w : World} {g : Nat} {xs : List C} (h : Wr w g xs) : Wr w.drew g xs := h
theorem Wr.drewN {w : World} {g n : Nat} {xs : List C} (h : Wr w g xs) : Wr (w.drewN n) g xs := h
theorem Wr.below {w w' : World} {g : Nat} {xs : List C} (h : Wr w g xs) (hb : Below w.heap.size w w') : Wr w' g xs :=
  ⟨h.1.below hb, fun k hk => (hb.frozen (p := ⟨g, k, none⟩) h.1.1).trans (h.2 k hk)⟩
theorem Wr.alloc {w : World} {g : Nat} {xs : List C} (h : Wr w g xs) (o : Obj) : Wr (w.alloc o) g xs := h.below ((Below.refl _ _).alloc (Nat.le_refl _) _)
theorem OwnC.wr {w : World} {base : Nat} {v : Value} {ys : List C} (h : OwnC w base v ys) : ∃ g cap, v = .slice (some ⟨g, 0, none⟩) ys.length cap ∧ base ≤ g ∧ Wr w g ys ∧ ys.length ≤ cap := by
  obtain ⟨g, cap, rfl, h1, h2, h3⟩ := h.rd
  obtain ⟨g', cap', e, h⟩ := h
  cases e
  exact ⟨g, cap, rfl, h1, ⟨h2, fun k _ => h.frozenAt k⟩, h3⟩
theorem run_makeC (w : World) (n : Nat) (hn : n ≤ 1000) : (Instr.makeSlice 25 (.int .i64 n) (.int .i64 n)).run Tryz.prog w = .ok (.slice (some ⟨w.heap.size, 0, none⟩) n n) (w.alloc (.cells (madeCells #[.complex .f32 0 0] n) 36)) := by
  obtain ⟨i0, hi, hz0, hz1, hz2⟩ := info_parts infoC
  have h := run_makeSlice (P := Tryz.prog) w 25 36 i0 (.complex .f32 0 0) Tryz.underlying25 hi hz0 .i64 .i64 n n (by omega) (Int.le_refl _) (by rw [hz1]; omega) (by rw [hz2]; omega) (by omega)
  rw [hz1] at h
  simpa [Value.cells] using h
theorem Wr.made (w : World) (n : Nat) (hn : n ≤ 1000) : Wr (w.alloc (.cells (madeCells #[.complex .f32 0 0] n) 36)) w.heap.size (List.replicate n (0, 0)) := by
  have h := World.ownsRow_lit (e := 36) (size := 1) (base := w.heap.size) w (madeCells #[.complex .f32 0 0] n) n (Nat.le_refl _) (by simp [maxLen]; omega) (by simp [size_madeCells])
  refine ⟨⟨by simp, fun k hk => ?_⟩, fun k _ => h.frozenAt k⟩
  simp at hk
  rw [h.cellAt k (by omega)]
  simp [madeCells, hk, Nat.mod_one, at_, List.getD, cv]

/-- The rest's turns at one step: the first i of the divisor's terms. -/
def inO (bs : List C) (q : C) (k : Nat) (r : List C) : Nat → Option (List C)
  | 0 => some r
  | i + 1 => (inO bs q k r i).bind fun r => (mulO q (at_ bs i)).bind fun m => (minusO (at_ r (k + i)) m).bind fun x => some (r.set (k + i) x)
def divStep (bs : List C) (k : Nat) (s : List C × List C) : Option (List C × List C) :=
  (quotO (at_ s.1 (k + 1)) (at_ bs 1)).bind fun q => (inO bs q k s.1 2).bind fun r => some (r, s.2.set k q)
/-- The rest and the quotient behind j steps. -/
def divO (bs a : List C) (m : Nat) : Nat → Option (List C × List C)
  | 0 => some (a, List.replicate m (0, 0))
  | j + 1 => (divO bs a m j).bind fun s => divStep bs (m - 1 - j) s
theorem divO_some {bs a : List C} {m : Nat} {r : List C × List C} : ∀ {n j : Nat}, divO bs a m n = some r → j ≤ n → ∃ v, divO bs a m j = some v := by
  intro n j
  induction n generalizing r with
  | zero => intro h hj; obtain rfl : j = 0 := by omega
            exact ⟨r, h⟩
  | succ n ih =>
    intro h hj
    by_cases e : j = n + 1
    · subst e; exact ⟨r, h⟩
    · simp only [divO, Option.bind_eq_some_iff] at h
      obtain ⟨v, hv, _⟩ := h
      exact ih hv (by omega)
theorem inO_length {bs : List C} {q : C} {k : Nat} {r r' : List C} : ∀ {i : Nat}, inO bs q k r i = some r' → r'.length = r.length := by
  intro i
  induction i generalizing r' with
  | zero => intro h; simp [inO] at h; rw [h]
  | succ i ih =>
    intro h
    simp only [inO, Option.bind_eq_some_iff, Option.some.injEq] at h
    obtain ⟨r1, h1, m, hm, x, hx, rfl⟩ := h
    simp [ih h1]
theorem divO_length {bs a : List C} {m : Nat} {s : List C × List C} : ∀ {j : Nat}, divO bs a m j = some s → s.1.length = a.length ∧ s.2.length = m := by
  intro j
  induction j generalizing s with
  | zero => intro h; simp [divO] at h; subst h; simp
  | succ j ih =>
    intro h
    simp only [divO, divStep, Option.bind_eq_some_iff, Option.some.injEq] at h
    obtain ⟨s1, h1, q, hq, r, hr, rfl⟩ := h
    simp [inO_length hr, ih h1]
/-- One step: what is needed to walk it. -/
theorem divO_succ {bs a : List C} {m : Nat} {r : List C × List C} {n j : Nat} (h : divO bs a m n = some r) (hj : j < n) {s : List C × List C} (hs : divO bs a m j = some s) :
    ∃ q r2, quotO (at_ s.1 (m - 1 - j + 1)) (at_ bs 1) = some q ∧ inO bs q (m - 1 - j) s.1 2 = some r2 ∧ divO bs a m (j + 1) = some (r2, s.2.set (m - 1 - j) q) := by
  obtain ⟨u, hu⟩ := divO_some h (j := j + 1) (by omega)
  have hu' := hu
  simp only [divO, divStep, hs, Option.bind_some, Option.bind_eq_some_iff, Option.some.injEq] at hu'
  obtain ⟨q, hq, r2, hr, rfl⟩ := hu'
  exact ⟨q, r2, hq, hr, hu⟩
theorem inO_some {bs : List C} {q : C} {k : Nat} {a r : List C} : ∀ {n j : Nat}, inO bs q k a n = some r → j ≤ n → ∃ v, inO bs q k a j = some v := by
  intro n j
  induction n generalizing r with
  | zero => intro h hj; obtain rfl : j = 0 := by omega
            exact ⟨r, h⟩
  | succ n ih =>
    intro h hj
    by_cases e : j = n + 1
    · subst e; exact ⟨r, h⟩
    · simp only [inO, Option.bind_eq_some_iff] at h
      obtain ⟨v, hv, _⟩ := h
      exact ih hv (by omega)
theorem inO_succ {bs : List C} {q : C} {k : Nat} {a r : List C} {n j : Nat} (h : inO bs q k a n = some r) (hj : j < n) {s : List C} (hs : inO bs q k a j = some s) :
    ∃ m x, mulO q (at_ bs j) = some m ∧ minusO (at_ s (k + j)) m = some x ∧ inO bs q k a (j + 1) = some (s.set (k + j) x) := by
  obtain ⟨u, hu⟩ := inO_some h (j := j + 1) (by omega)
  have hu' := hu
  simp only [inO, hs, Option.bind_some, Option.bind_eq_some_iff, Option.some.injEq] at hu'
  obtain ⟨m, hm, x, hx, rfl⟩ := hu'
  exact ⟨m, x, hm, hx, hu⟩
end Go.Proofs.YtlhdgbiaiacpfaaGreat
