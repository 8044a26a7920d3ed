/- Contracts of the reference's polynomial of some roots. No condition but that the operations are valid and finite. -/
import Derived.Test.YtlhdgbiaiacpfaaW16
import Derived.Deep.RegionLaw
namespace Go.Proofs.Ytlhdgbiaiacpfaa
open Go.RowKit

/-- A term, 0 where it is missing. -/
def tm (xs : List C) (k : Int) : C := if 0 ≤ k ∧ k < xs.length then at_ xs k.toNat else (0, 0)
theorem spec_l02Term (g cap : Nat) (xs : List C) (k : Int) (w : World) (hn : xs.length ≤ 1000) (hr : Rd w g xs) (hk : -1000 ≤ k) (hk2 : k ≤ 1000) :
    Calls Try.prog 46 #[.slice (some ⟨g, 0, none⟩) xs.length cap, .int .i64 k] w fun e w' => e = .returned (cv (tm xs k)) ∧ w = w' := by
  by_cases h0 : k < 0
  · have e : tm xs k = (0, 0) := by rw [tm, if_neg (by omega)]
    rw [e]
    go_enter Try.func46, Try.ntmps46
    go_wp2
    go_ret
    exact ⟨rfl, rfl⟩
  · by_cases h1 : k < xs.length
    · obtain ⟨n, rfl⟩ := Int.eq_ofNat_of_zero_le (by omega : 0 ≤ k)
      have e : tm xs (n : Int) = at_ xs n := by rw [tm, if_pos (by omega)]; rfl
      rw [e]
      have hc := hr.2 n (by omega)
      go_enter Try.func46, Try.ntmps46
      go_wp2
      all_goals (go_ret; exact ⟨rfl, rfl⟩)
    · have e : tm xs k = (0, 0) := by rw [tm, if_neg (by omega)]
      rw [e]
      go_enter Try.func46, Try.ntmps46
      go_wp2
      all_goals (go_ret; exact ⟨rfl, rfl⟩)

/-- The first j terms of the product of c and the variable less z. -/
def mrO (c : List C) (z : C) : Nat → Option (List C)
  | 0 => some []
  | j + 1 => (mrO c z j).bind fun l => (mulO z (tm c j)).bind fun m => (minusO (tm c ((j : Int) - 1)) m).bind fun x => some (l ++ [x])
def mulRootO (c : List C) (z : C) : Option (List C) := mrO c z (c.length + 1)
/-- The product of the first i roots' factors. -/
def prO (rs : List C) : Nat → Option (List C)
  | 0 => some [(1065353216, 0)]
  | i + 1 => (prO rs i).bind fun c => mulRootO c (at_ rs i)

theorem mrO_some {c : List C} {z : C} {r : List C} : ∀ {n j : Nat}, mrO c z n = some r → j ≤ n → ∃ v, mrO c z j = some v := by
  intro n j
  induction n generalizing r with
  | zero => intro h hj; obtain rfl : j = 0 := by omega
            exact ⟨r, h⟩
  | succ n ih =>
    intro h hj
    by_cases e : j = n + 1
    · subst e; exact ⟨r, h⟩
    · simp only [mrO, Option.bind_eq_some_iff] at h
      obtain ⟨v, hv, _⟩ := h
      exact ih hv (by omega)
theorem mrO_succ {c : List C} {z : C} {r : List C} {n j : Nat} (h : mrO c z n = some r) (hj : j < n) {l : List C} (hl : mrO c z j = some l) :
    ∃ m x, mulO z (tm c j) = some m ∧ minusO (tm c ((j : Int) - 1)) m = some x ∧ mrO c z (j + 1) = some (l ++ [x]) := by
  obtain ⟨u, hu⟩ := mrO_some h (j := j + 1) (by omega)
  have hu' := hu
  simp only [mrO, hl, Option.bind_some, Option.bind_eq_some_iff, Option.some.injEq] at hu'
  obtain ⟨m, hm, x, hx, rfl⟩ := hu'
  exact ⟨m, x, hm, hx, hu⟩
theorem mrO_length {c : List C} {z : C} : ∀ {j : Nat} {l : List C}, mrO c z j = some l → l.length = j := by
  intro j
  induction j with
  | zero => intro l h; simp [mrO] at h; subst h; rfl
  | succ j ih =>
    intro l h
    simp only [mrO, Option.bind_eq_some_iff, Option.some.injEq] at h
    obtain ⟨l', hl', m, hm, x, hx, rfl⟩ := h
    simp [ih hl']
theorem prO_some {rs : List C} {r : List C} : ∀ {n j : Nat}, prO rs n = some r → j ≤ n → ∃ v, prO rs j = some v := by
  intro n j
  induction n generalizing r with
  | zero => intro h hj; obtain rfl : j = 0 := by omega
            exact ⟨r, h⟩
  | succ n ih =>
    intro h hj
    by_cases e : j = n + 1
    · subst e; exact ⟨r, h⟩
    · simp only [prO, Option.bind_eq_some_iff] at h
      obtain ⟨v, hv, _⟩ := h
      exact ih hv (by omega)
theorem prO_succ {rs : List C} {r : List C} {n j : Nat} (h : prO rs n = some r) (hj : j < n) {c : List C} (hc : prO rs j = some c) : ∃ d, mulRootO c (at_ rs j) = some d ∧ prO rs (j + 1) = some d := by
  obtain ⟨u, hu⟩ := prO_some h (j := j + 1) (by omega)
  have hu' := hu
  simp only [prO, hc, Option.bind_some] at hu'
  exact ⟨u, hu', hu⟩
theorem prO_length {rs : List C} : ∀ {j : Nat} {l : List C}, prO rs j = some l → l.length = j + 1 := by
  intro j
  induction j with
  | zero => intro l h; simp [prO] at h; subst h; rfl
  | succ j ih =>
    intro l h
    simp only [prO, Option.bind_eq_some_iff] at h
    obtain ⟨c, hc, hl⟩ := h
    rw [mrO_length hl, ih hc]

theorem OwnC.lower {w : World} {b b' : Nat} {v : Value} {ys : List C} (h : OwnC w b v ys) (hb : b' ≤ b) : OwnC w b' v ys := by
  obtain ⟨g, cap, rfl, h1, h2⟩ := h
  refine ⟨g, cap, rfl, h1, ?_⟩
  rcases h2 with h2 | ⟨g', cap', cur, hv, hg, rest⟩
  · exact .inl h2
  · exact .inr ⟨g', cap', cur, hv, by omega, rest⟩
/-- append of one number, as a step of a region that draws. -/
theorem step_append1 {w0 : World} {ops : Array Oper} {o : Oper} {a : Act} {K : Act → World → Prop} {Q : Exit → Act → World → Prop} {E : Prop} (hgd : o.guard = none) (s x : Operand)
    (ho : o.op = .call { callee := .builtin .append, args := #[s, x], argTypes := #[25, 25] })
    (base : Nat) (v : Value) (ys : List C) (hs : a.eval s = v) (hown : OwnC w0 base v ys) (r : C) (hx : a.eval x = .slice (some ⟨w0.heap.size, 0, none⟩) 1 1)
    (hlen : ys.length < 1000) (hbase : base ≤ w0.heap.size)
    (h : ∀ v' w', OwnC w' base v' (ys ++ [r]) → Below base w0 w' → K (a.put o.dst v') w') :
    if Region.wanted o (yielded ops a.tmps) = true then Oper.wp Try.prog o a (w0.alloc (.cells #[cv r] 31)) K Q else E := by
  have hw : Region.wanted o (yielded ops a.tmps) = true := by simp [Region.wanted, hgd]
  rw [if_pos hw]
  obtain ⟨i0, hi, hz0, hz1, hz2⟩ := info_parts infoC
  obtain ⟨g, cap, rfl, hown⟩ := hown
  have hl := hown.lt g rfl
  refine wp_append_own (w0.alloc (.cells #[cv r] 31)) s x 25 ho base 31 i0 (.complex .f32 0 0) 1 8 Try.underlying25 hi hz0 hz1 hz2 rfl (by decide) _ _ _ hs (hown.alloc _)
    ⟨w0.heap.size, 0, none⟩ 1 1 [cv r] hx rfl ?_ (by intro u hu; simp at hu; subst hu; rfl) (by simp [maxLen]; omega) (by omega) (by simp; omega) ?_
  · intro j u hu
    have : j = 0 := by
      rcases j with _ | j
      · rfl
      · simp at hu
    subst this
    simp at hu
    subst hu
    exact new_cell w0 (cv r) _
  · intro v' w1 hown1 hg1 _
    refine h v' w1 ?_ ?_
    · rcases hown1.2 with ⟨_, h0⟩ | ⟨g', cap', cur, rfl, _⟩
      · omega
      · exact ⟨g', cap', by simp, by simpa using hown1⟩
    · exact ((Below.refl _ _).alloc hbase _).grown hg1 (by simp; omega) (fun k (hk : some g = some k) => by injection hk with e; omega)

/-- The same behind the draw of the region's order. -/
theorem step_append1d {w0 : World} {ops : Array Oper} {o : Oper} {a : Act} {K : Act → World → Prop} {Q : Exit → Act → World → Prop} {E : Prop} (hgd : o.guard = none) (s x : Operand)
    (ho : o.op = .call { callee := .builtin .append, args := #[s, x], argTypes := #[25, 25] })
    (base : Nat) (v : Value) (ys : List C) (hs : a.eval s = v) (hown : OwnC w0 base v ys) (r : C) (hx : a.eval x = .slice (some ⟨w0.heap.size, 0, none⟩) 1 1)
    (hlen : ys.length < 1000) (hbase : base ≤ w0.heap.size)
    (h : ∀ v' w', OwnC w' base v' (ys ++ [r]) → Below base w0 w' → K (a.put o.dst v') w') :
    if Region.wanted o (yielded ops a.tmps) = true then Oper.wp Try.prog o a (w0.alloc (.cells #[cv r] 31)).drew K Q else E :=
  step_append1 (w0 := w0.drew) hgd s x ho base v ys hs hown.drew r hx hlen hbase (fun v' w' h1 h2 => h v' w' h1 ⟨h2.os, h2.tape, h2.output, h2.size, h2.block⟩)

set_option maxRecDepth 100000 in
set_option maxHeartbeats 400000 in
theorem spec_l02Rooted (g cap : Nat) (rs ys : List C) (w : World) (hn : rs.length ≤ 16) (hr : Rd w g rs) (h : prO rs rs.length = some ys) :
    Calls Try.prog 21 #[.slice (some ⟨g, 0, none⟩) rs.length cap] w (GivesC ys w) := by
  have HR := Lib.hid hr
  have HY := Lib.hid h
  clear hr h
  have hm : OwnC (w.alloc (.cells #[.complex .f32 1065353216 0] 31)) w.heap.size (.slice (some ⟨w.heap.size, 0, none⟩) 1 1) [(1065353216, 0)] :=
    ⟨w.heap.size, 1, rfl, World.ownsRow_lit w #[.complex .f32 1065353216 0] 1 (Nat.le_refl _) (by simp [maxLen]) rfl⟩
  go_enter Try.func21, Try.ntmps21
  go_wp2
  go_loopw [3, 4, 5, 6] (fun v i _ _ wr => ∃ (k : Nat) (c : List C), k ≤ rs.length ∧ Hid (prO rs k = some c) ∧ OwnC wr w.heap.size v c ∧ i = .int .i64 k ∧ Below w.heap.size w wr) (fun _ i _ _ _ => rs.length - (intOf i).toNat)
  case atStart => exact ⟨0, _, Nat.zero_le _, Lib.hid rfl, hm, rfl, (Below.refl _ _).alloc (Nat.le_refl _) _⟩
  case round =>
    obtain ⟨k, c, hk, hc, hown, rfl, hb⟩ := hrel
    obtain ⟨wo, rfl⟩ : ∃ wo : World, wo = wr := ⟨_, rfl⟩
    have hcl := prO_length hc.out
    by_cases hlt : k < rs.length
    · obtain ⟨d, hd1, hd2⟩ := prO_succ HY.out hlt hc.out
      have hx := (HR.out.below hb).2 k hlt
      obtain ⟨gc, capc, rfl, hbg, hrc, hcc⟩ := hown.rd
      have HD1 := Lib.hid hd1
      have HD2 := Lib.hid hd2
      have HCL := Lib.hid hcl
      clear hd1 hd2 hc hcl
      go_wp2
      have hm2 : OwnC (wo.alloc (.cells #[] 31)) wo.heap.size (.slice (some ⟨wo.heap.size, 0, none⟩) 0 0) [] := OwnC.made wo wo.heap.size (Nat.le_refl _)
      have hcs : c.length ≤ 17 := by have := HCL.out; omega
      go_loopw [5, 6] (fun v i wq => ∃ (j : Nat) (l : List C), j ≤ c.length + 1 ∧ Hid (mrO c (at_ rs k) j = some l) ∧ OwnC wq wo.heap.size v l ∧ i = .int .i64 j ∧ Below wo.heap.size wo wq) (fun _ i _ => c.length + 1 - (intOf i).toNat)
      case atStart => exact ⟨0, [], Nat.zero_le _, Lib.hid rfl, hm2, rfl, (Below.refl _ _).alloc (Nat.le_refl _) _⟩
      case round =>
        obtain ⟨j, l, hj, hl, hown2, rfl, hb2⟩ := hrel
        have hll := mrO_length hl.out
        by_cases hlt2 : j < c.length + 1
        · obtain ⟨m, x, h1, h2, h3⟩ := mrO_succ HD1.out hlt2 hl.out
          have hrc2 := hrc.below hb2
          have hx2 := (HR.out.below (below_trans hb hb2)).2 k hlt
          have H1 := Lib.hid h1
          have H3 := Lib.hid h3
          have hl18 : l.length < 1000 := by omega
          have hjk : j ≤ 18 := by omega
          have Z1 := fun W hw => spec_l02Term gc capc c ((j : Int) - 1) W (by omega) hw (by omega) (by omega)
          have Z2 := fun W hw => spec_l02Term gc capc c (j : Int) W (by omega) hw (by omega) (by omega)
          have HZ1 := Lib.hid Z1
          have HZ2 := Lib.hid Z2
          have hw1 : IntKind.i64.wrap ((j : Int) - 1) = (j : Int) - 1 := IntWalk.i64_in _ (by omega)
          clear h1 h3 hl hx hll Z1 Z2
          go_wp2_with fail
          go_region_law (first
            | (refine step_append1d (o := ⟨some 36, _, _, _, _, _⟩) rfl (.tmp 21) (.tmp 35) rfl wo.heap.size _ l rfl hown2 x rfl hl18 hb2.size ?_; intro v' w1 hown1 hb1)
            | (go_simp; go_at_call 46; (with_reducible refine (HZ1.out _ hrc2.drew).mono ?_); rintro e w' ⟨rfl, rfl⟩)
            | (go_simp; go_at_call 46; (with_reducible refine (HZ2.out _ hrc2.drew).mono ?_); rintro e w' ⟨rfl, rfl⟩)
            | (go_simp; go_at_call 47; (with_reducible refine (spec_l01Mul _ _ m H1.out _).mono ?_); rintro e w' ⟨rfl, rfl⟩))
          all_goals
            go_wp2
            go_roundw
            case rel => exact ⟨j + 1, l ++ [x], by omega, H3, hown1, by go_num, hb2.trans hb1⟩
            case measure => simp [intOf]; omega
        · have e : j = c.length + 1 := by omega
          have e2 : l = d := Option.some.inj (by rw [← hl.out, e]; exact HD1.out)
          subst e2
          have HB2 := Lib.hid (below_trans hb hb2)
          have HO := Lib.hid (hown2.lower hb.size)
          clear hl hll e hown2 hx
          go_wp2
          go_roundw
          case rel => exact ⟨k + 1, l, by omega, HD2, HO.out, by go_num, HB2.out⟩
          case measure => simp [intOf]; omega
    · have e : k = rs.length := by omega
      have e2 : c = ys := Option.some.inj (by rw [← hc.out, e]; exact HY.out)
      subst e2
      obtain ⟨gc, capc, rfl, hbg, hrc, hcc⟩ := hown.rd
      clear hc hcl e
      go_wp2
      go_ret
      exact ⟨gc, capc, rfl, hbg, hrc, hb, hcc⟩

set_option maxHeartbeats 1000000 in
theorem spec_PolyOfRoots (g cap : Nat) (rs ys : List C) (w : World) (hn : rs.length ≤ 16) (hr : Rd w g rs) (hf : AllFin rs) (h : prO rs rs.length = some ys) (hv : VP ys) :
    Calls Try.prog 7 #[.slice (some ⟨g, 0, none⟩) rs.length cap] w (GivesP ys w) := by
  have HY := Lib.hid h
  have hp := new_cell w (.slice none 0 0) 28
  have hfz : (w.alloc (.cells #[.slice none 0 0] 28)).frozen? ⟨w.heap.size, 0, none⟩ = false := by go_simp
  have hr0 := hr.alloc (.cells #[.slice none 0 0] 28)
  have hd : decide ((17 : Int) ≤ rs.length) = false := by simp; omega
  clear h
  go_enter Try.func7, Try.ntmps7
  go_wp2_with (first
    | (go_at_call 19; refine (spec_l02CFinite g cap rs _ (by omega) hr0 hf).mono ?_; rintro e w' ⟨rfl, rfl⟩)
    | (go_at_call 21; refine (spec_l02Rooted g cap rs ys _ hn hr0 HY.out).mono ?_; rintro e w1 ⟨g1, cap1, rfl, hg1, hr1, hb1, hcap1⟩; have c1 := kc hb1 hp; have c2 := kf hb1 hp hfz)
    | (go_at_call 20; refine (spec_l02Give g1 cap1 ys w1 hcap1 hr1 hv).mono ?_; rintro e w2 ⟨g2, cap2, rfl, hg2, hr2, hb2, hcap2⟩; have d1 := kc hb2 c1; have d2 := kf hb2 c1 c2))
  refine bodyPost_ret (v := .tuple #[.agg #[.slice (some ⟨g2, 0, none⟩) ys.length cap2], .bool true]) (by simp [results, Try.results7, go_sem, d1]) rfl ⟨g2, _, rfl, ?_, ?_, ?_, hcap2⟩
  · have := hb1.size; simp at this; omega
  · exact hr2.setCell (by have := hb1.size; simp at this; show g2 ≠ w.heap.size; omega) _
  · exact (below_trans (below_alloc hb1) hb2).setCell (by simp) _
end Go.Proofs.Ytlhdgbiaiacpfaa
