/- Laws for the walk: float and complex operations as plain option-valued functions of the words. No condition. -/
import Derived.WalkKit
import Derived.WalkSpells
import Derived.WalkLawsBesides
import Derived.Lib.Hide
namespace Go.Proofs.Ytlhdgbiaiacpfaa
open Go.RowKit

/-- A float operation's outcome: the option's value, or what the tape draws. -/
def fopRun (P : Program) (op : BinOp) (t : TypeId) (k : FloatKind) (x y : Nat) (o : Option Nat) (w : World) : Result Value :=
  match o with
  | some r => .ok (.float k r) w
  | none => (binOp op t (.float k x) (.float k y)).run P w
/-- A conversion between floats: the option's value, or what the tape draws. -/
def fcvRun (P : Program) (s d : TypeId) (k : FloatKind) (x : Nat) (k' : FloatKind) (o : Option Nat) (w : World) : Result Value :=
  match o with
  | some r => .ok (.float k' r) w
  | none => (convert s d (.float k x)).run P w
/-- A conversion from a float to an integer. -/
def fciRun (P : Program) (s d : TypeId) (k : FloatKind) (x : Nat) (k' : IntKind) (o : Option Int) (w : World) : Result Value :=
  match o with
  | some r => .ok (.int k' r) w
  | none => (convert s d (.float k x)).run P w
/-- A sum or a difference of complex numbers. -/
def copRun (P : Program) (op : BinOp) (t : TypeId) (k : FloatKind) (a b c d : Nat) (o : Option (Nat × Nat)) (w : World) : Result Value :=
  match o with
  | some r => .ok (.complex k r.1 r.2) w
  | none => (binOp op t (.complex k a b) (.complex k c d)).run P w

section
variable {P : Program} (w : World)
@[go_sem] theorem fopRun_some (op : BinOp) (t : TypeId) (k : FloatKind) (x y r : Nat) : fopRun P op t k x y (some r) w = .ok (.float k r) w := rfl
@[go_sem] theorem fcvRun_some (s d : TypeId) (k : FloatKind) (x : Nat) (k' : FloatKind) (r : Nat) : fcvRun P s d k x k' (some r) w = .ok (.float k' r) w := rfl
@[go_sem] theorem fciRun_some (s d : TypeId) (k : FloatKind) (x : Nat) (k' : IntKind) (r : Int) : fciRun P s d k x k' (some r) w = .ok (.int k' r) w := rfl
@[go_sem] theorem copRun_some (op : BinOp) (t : TypeId) (k : FloatKind) (a b c d : Nat) (r : Nat × Nat) : copRun P op t k a b c d (some r) w = .ok (.complex k r.1 r.2) w := rfl
theorem run_fop (op : BinOp) (t : TypeId) (k : FloatKind) (x y : Nat) :
    (binOp op t (.float k x) (.float k y)).run P w = fopRun P op t k x y (floatBits op k x y) w := by
  cases hb : floatBits op k x y with
  | some r => exact run_float_arith w op t k x y r hb
  | none => rfl
@[go_sem] theorem run_fadd (t : TypeId) (k : FloatKind) (x y : Nat) : (binOp .add t (.float k x) (.float k y)).run P w = fopRun P .add t k x y (floatBits .add k x y) w := run_fop w ..
@[go_sem] theorem run_fsub (t : TypeId) (k : FloatKind) (x y : Nat) : (binOp .sub t (.float k x) (.float k y)).run P w = fopRun P .sub t k x y (floatBits .sub k x y) w := run_fop w ..
@[go_sem] theorem run_fmul (t : TypeId) (k : FloatKind) (x y : Nat) : (binOp .mul t (.float k x) (.float k y)).run P w = fopRun P .mul t k x y (floatBits .mul k x y) w := run_fop w ..
@[go_sem] theorem run_fquo (t : TypeId) (k : FloatKind) (x y : Nat) : (binOp .quo t (.float k x) (.float k y)).run P w = fopRun P .quo t k x y (floatBits .quo k x y) w := run_fop w ..
@[go_sem] theorem run_fcv (s d : TypeId) (k k' : FloatKind) (x : Nat) (hs : (P.underlying s).isSome = true) (hd : P.underlying d = some (.float k')) :
    (convert s d (.float k x)).run P w = fcvRun P s d k x k' (floatToFloatBits k x k') w := by
  cases hb : floatToFloatBits k x k' with
  | some r => exact run_convert_float_float w s d k k' x r hs hd hb
  | none => rfl
@[go_sem] theorem run_fci (s d : TypeId) (k : FloatKind) (k' : IntKind) (x : Nat) (hs : (P.underlying s).isSome = true) (hd : P.underlying d = some (.int k')) :
    (convert s d (.float k x)).run P w = fciRun P s d k x k' (floatToIntVal k x k') w := by
  cases hb : floatToIntVal k x k' with
  | some r => exact run_convert_float_int w s d k k' x r hs hd hb
  | none => rfl
theorem run_cop (op : BinOp) (hop : op = .add ∨ op = .sub) (t : TypeId) (k : FloatKind) (a b c d : Nat) :
    (binOp op t (.complex k a b) (.complex k c d)).run P w = copRun P op t k a b c d (cSumBits op k a b c d) w := by
  cases hb : cSumBits op k a b c d with
  | some r => exact run_complex_sum w op hop t k a b c d r.1 r.2 hb
  | none => rfl
@[go_sem] theorem run_cadd (t : TypeId) (k : FloatKind) (a b c d : Nat) : (binOp .add t (.complex k a b) (.complex k c d)).run P w = copRun P .add t k a b c d (cSumBits .add k a b c d) w := run_cop w .add (.inl rfl) ..
@[go_sem] theorem run_csub (t : TypeId) (k : FloatKind) (a b c d : Nat) : (binOp .sub t (.complex k a b) (.complex k c d)).run P w = copRun P .sub t k a b c d (cSumBits .sub k a b c d) w := run_cop w .sub (.inr rfl) ..
end
@[go_sem] theorem unary_neg_float (k : FloatKind) (b : Nat) : Op.unary .neg (.float k b) = pure (.float k (Op.negFloat k b)) := rfl
@[go_sem] theorem unary_neg_complex (k : FloatKind) (a b : Nat) : Op.unary .neg (.complex k a b) = pure (.complex k (Op.negFloat k a) (Op.negFloat k b)) := rfl
@[go_sem] theorem run_store_float' (P : Program) (w : World) (a : Addr) (m : Mode) (k : FloatKind) (b : Nat) : (store a (.float k b) m).run P w = stored P w a (.float k b) m := run_store P w a _ m rfl
@[go_sem] theorem run_store_complex' (P : Program) (w : World) (a : Addr) (m : Mode) (k : FloatKind) (x y : Nat) : (store a (.complex k x y) m).run P w = stored P w a (.complex k x y) m := run_store P w a _ m rfl

/-! The chains: what the program's small functions give, as words; 'none' where the tape would be asked. -/
abbrev C := Nat × Nat
def add32 (x y : Nat) : Option Nat := floatBits .add .f32 x y
def sub32 (x y : Nat) : Option Nat := floatBits .sub .f32 x y
def mul32 (x y : Nat) : Option Nat := floatBits .mul .f32 x y
def div32 (x y : Nat) : Option Nat := floatBits .quo .f32 x y
def add64 (x y : Nat) : Option Nat := floatBits .add .f64 x y
def sub64 (x y : Nat) : Option Nat := floatBits .sub .f64 x y
def mul64 (x y : Nat) : Option Nat := floatBits .mul .f64 x y
def div64 (x y : Nat) : Option Nat := floatBits .quo .f64 x y
def wid (x : Nat) : Option Nat := floatToFloatBits .f32 x .f64
def nar (x : Nat) : Option Nat := floatToFloatBits .f64 x .f32
def neg32 (x : Nat) : Nat := Op.negFloat .f32 x
def neg64 (x : Nat) : Nat := Op.negFloat .f64 x
def cv (x : C) : Value := .complex .f32 x.1 x.2
@[go_sem ↓] theorem cells_cv (z : C) : (cv z).cells = #[cv z] := rfl
def cv64 (x : Nat × Nat) : Value := .complex .f64 x.1 x.2
section
variable {P : Program} (w : World)
@[go_sem] theorem run_real_cv (ts : Array TypeId) (t : TypeId) (x : C) : (Builtin.real_ ts t #[cv x]).run P w = .ok (.float .f32 x.1) w := rfl
@[go_sem] theorem run_imag_cv (ts : Array TypeId) (t : TypeId) (x : C) : (Builtin.imag_ ts t #[cv x]).run P w = .ok (.float .f32 x.2) w := rfl
@[go_sem] theorem run_real_cv64 (ts : Array TypeId) (t : TypeId) (x : C) : (Builtin.real_ ts t #[cv64 x]).run P w = .ok (.float .f64 x.1) w := rfl
@[go_sem] theorem run_imag_cv64 (ts : Array TypeId) (t : TypeId) (x : C) : (Builtin.imag_ ts t #[cv64 x]).run P w = .ok (.float .f64 x.2) w := rfl
@[go_sem] theorem run_store_cv (P : Program) (w : World) (a : Addr) (m : Mode) (x : C) : (store a (cv x) m).run P w = stored P w a (cv x) m := run_store P w a _ m rfl
/-- A sum or a difference of complex numbers, by name. -/
def copCv (P : Program) (op : BinOp) (t : TypeId) (x y : C) (o : Option C) (w : World) : Result Value :=
  match o with
  | some r => .ok (cv r) w
  | none => (binOp op t (cv x) (cv y)).run P w
@[go_sem] theorem copCv_some (op : BinOp) (t : TypeId) (x y r : C) : copCv P op t x y (some r) w = .ok (cv r) w := rfl
end

/-- The parts of a product, 64 bits. -/
def timesO (x y : C) : Option (Nat × Nat) :=
  (wid x.1).bind fun a => (wid x.2).bind fun b => (wid y.1).bind fun c => (wid y.2).bind fun d =>
  (mul64 a c).bind fun ac => (mul64 b d).bind fun bd => (sub64 ac bd).bind fun re =>
  (mul64 a d).bind fun ad => (mul64 b c).bind fun bc => (add64 ad bc).bind fun im => some (re, im)
def narC (x : Nat × Nat) : Option C := (nar x.1).bind fun a => (nar x.2).bind fun b => some (a, b)
section
variable {P : Program} (w : World)
def plusO (x y : C) : Option C := (add32 x.1 y.1).bind fun a => (add32 x.2 y.2).bind fun b => some (a, b)
def minusO (x y : C) : Option C := (sub32 x.1 y.1).bind fun a => (sub32 x.2 y.2).bind fun b => some (a, b)
@[go_sem] theorem run_add_cv (t : TypeId) (x y : C) : (binOp .add t (cv x) (cv y)).run P w = copCv P .add t x y (plusO x y) w := by
  cases hb : plusO x y with
  | some r => exact run_complex_sum w .add (.inl rfl) t .f32 x.1 x.2 y.1 y.2 r.1 r.2 hb
  | none => rfl
@[go_sem] theorem run_sub_cv (t : TypeId) (x y : C) : (binOp .sub t (cv x) (cv y)).run P w = copCv P .sub t x y (minusO x y) w := by
  cases hb : minusO x y with
  | some r => exact run_complex_sum w .sub (.inr rfl) t .f32 x.1 x.2 y.1 y.2 r.1 r.2 hb
  | none => rfl
@[go_sem] theorem run_add_cvl (t : TypeId) (x : C) (a b : Nat) : (binOp .add t (cv x) (.complex .f32 a b)).run P w = copCv P .add t x (a, b) (plusO x (a, b)) w := run_add_cv w t x (a, b)
@[go_sem] theorem run_sub_cvr (t : TypeId) (x : C) (a b : Nat) : (binOp .sub t (.complex .f32 a b) (cv x)).run P w = copCv P .sub t (a, b) x (minusO (a, b) x) w := run_sub_cv w t (a, b) x
@[go_sem] theorem eqGuard_eql_cv (t : TypeId) (x y : Operand) (u : C) (v : Value) : eqGuard .eql t x y (cv u) v = pure () := rfl
@[go_sem] theorem eqGuard_neq_cv (t : TypeId) (x y : Operand) (u : C) (v : Value) : eqGuard .neq t x y (cv u) v = pure () := rfl
/-- Equal to 0. -/
def isZ (x : C) : Bool := (FloatKind.f32.format.order x.1 0 == some .eq) && (FloatKind.f32.format.order x.2 0 == some .eq)
@[go_sem] theorem run_eql_cv0 (t : TypeId) (x : C) : (binOp .eql t (cv x) (.complex .f32 0 0)).run P w = .ok (.bool (isZ x)) w := run_eql_complex w t .f32 x.1 x.2 0 0
@[go_sem] theorem run_neq_cv0 (t : TypeId) (x : C) : (binOp .neq t (cv x) (.complex .f32 0 0)).run P w = .ok (.bool (!isZ x)) w := run_neq_complex w t .f32 x.1 x.2 0 0
@[go_sem] theorem unary_neg_cv (x : C) : Op.unary .neg (cv x) = pure (cv (neg32 x.1, neg32 x.2)) := rfl
end
/-- max of two numbers. -/
def maxRun (P : Program) (ts : Array TypeId) (t : TypeId) (k : FloatKind) (x y : Nat) (o : Option Ordering) (w : World) : Result Value :=
  match o with
  | some .lt => .ok (.float k y) w
  | some .gt => .ok (.float k x) w
  | some .eq => .ok (.float k (if (k.decode x).neg then y else x)) w
  | none => (Builtin.max_ ts t #[.float k x, .float k y]).run P w
section
variable {P : Program} (w : World)
@[go_sem] theorem maxRun_lt (ts : Array TypeId) (t : TypeId) (k : FloatKind) (x y : Nat) : maxRun P ts t k x y (some .lt) w = .ok (.float k y) w := rfl
@[go_sem] theorem maxRun_gt (ts : Array TypeId) (t : TypeId) (k : FloatKind) (x y : Nat) : maxRun P ts t k x y (some .gt) w = .ok (.float k x) w := rfl
@[go_sem] theorem maxRun_eq (ts : Array TypeId) (t : TypeId) (k : FloatKind) (x y : Nat) : maxRun P ts t k x y (some .eq) w = .ok (.float k (if (k.decode x).neg then y else x)) w := rfl
@[go_sem high] theorem run_max_float (ts : Array TypeId) (t : TypeId) (k k' : FloatKind) (x y : Nat) :
    (Builtin.max_ ts t #[.float k x, .float k' y]).run P w = maxRun P ts t k x y (k.format.order x y) w := by
  have e : Builtin.max_ ts t #[.float k x, .float k' y] = (Builtin.max2 (.float k x) (.float k' y) >>= fun r => pure r) := rfl
  have e2 : Builtin.max2 (.float k x) (.float k' y) = (match k.format.order x y with
    | none => do pure (.float k (← choose (.nanMinMax k true x y)))
    | some .lt => pure (.float k y)
    | some .gt => pure (.float k x)
    | some .eq => pure (.float k (if (k.decode x).neg then y else x))) := rfl
  cases ho : k.format.order x y with
  | none =>
    have e3 : Builtin.max_ ts t #[.float k x, .float k y] = (Builtin.max2 (.float k x) (.float k y) >>= fun r => pure r) := rfl
    have e4 : Builtin.max2 (.float k x) (.float k y) = Builtin.max2 (.float k x) (.float k' y) := rfl
    show _ = (Builtin.max_ ts t #[.float k x, .float k y]).run P w
    rw [e, e3, e4]
  | some o => rw [e, e2, ho]; cases o <;> simp [maxRun, Sem.run_pure]
end
def mulO (x y : C) : Option C := (timesO x y).bind narC
def scaleO (x : C) (by_ : Nat) : Option C := (mul32 x.1 by_).bind fun a => (mul32 x.2 by_).bind fun b => some (a, b)
def conjC (x : C) : C := (x.1, neg32 x.2)
def powerO (x : C) : Option Nat :=
  (wid x.1).bind fun a => (wid x.2).bind fun b => (mul64 a a).bind fun aa => (mul64 b b).bind fun bb => add64 aa bb
def sqrt64 (x : Nat) : Option Nat := FloatKind.f64.format.sqrt x
def longO (x : C) : Option Nat := (powerO x).bind fun p => (sqrt64 p).bind nar
def quotO (x y : C) : Option C :=
  (timesO x (conjC y)).bind fun r => (powerO y).bind fun p => (div64 r.1 p).bind fun a => (div64 r.2 p).bind fun b => narC (a, b)
end Go.Proofs.Ytlhdgbiaiacpfaa
