/- Around the great box each root's angle makes one turn: the sums, counted. No condition. -/
import Derived.Test.YtlhdgbiaiacpfaaM4
namespace Go.Proofs.Ytlhdgbiaiacpfaa
open Go.RowKit Num Ieee
open G

/-! Around the great box each root's angle makes one turn: the sums, counted. No condition. -/
/-- The box's points without error, in parts of 1/2560; i from 0 on to 159. -/
def ix (k : Nat) : Int := 1030 * (k : Int) - 20560
def iy (k : Nat) : Int := 1031 * (k : Int) - 20520
def px (i : Nat) : Int := if i < 40 then ix i else if i < 80 then ix 40 else if i < 120 then ix (120 - i) else ix 0
def py (i : Nat) : Int := if i < 40 then iy 0 else if i < 80 then iy (i - 40) else if i < 120 then iy 40 else iy (160 - i)
def qx (j a : Nat) : Int := 2560 * (j : Int) - 3840 + 320 * (a : Int)
def qy (b : Nat) : Int := 320 * (b : Int) - 2560
def wre (X Y : Int) (i : Nat) : Int := (px (nx 160 i) - X) * (px i - X) + (py (nx 160 i) - Y) * (py i - Y)
def wim (X Y : Int) (i : Nat) : Int := (py (nx 160 i) - Y) * (px i - X) - (px (nx 160 i) - X) * (py i - Y)
def bji : Nat → Int
  | 0 => 6175
  | 1 => 5745
  | 2 => 5745
  | _ => 6655
def stepOk (j : Nat) (X Y : Int) (i : Nat) : Bool :=
  decide (0 < wre X Y i) && decide (0 ≤ wim X Y i) && decide (wim X Y i * 100000 ≤ bji j * wre X Y i) && decide (235929600 ≤ (px i - X) * (px i - X) + (py i - Y) * (py i - Y))
/-- The tangent in parts of 2^30. -/
def tn (X Y : Int) (i : Nat) : Nat := (wim X Y i).toNat * 1073741824 / (wre X Y i).toNat
/-- The angle in parts of 15 * 2^150. -/
def Tn (u : Nat) : Int := 15 * 2 ^ 120 * (u : Int) - 5 * 2 ^ 60 * ((u : Int) * u * u) + 3 * ((u : Int) * u * u * u * u)
def sumI (f : Nat → Int) : Nat → Int
  | 0 => 0
  | n + 1 => sumI f n + f n
def turnOk (X Y : Int) : Bool :=
  let s := sumI (fun i => Tn (tn X Y i)) 160
  decide (s * 100000 ≤ (7074237752028440 * 15 * 2 ^ 100) * 100000 + 15 * 2 ^ 150) && decide ((7074237752028440 * 15 * 2 ^ 100) * 100000 ≤ s * 100000 + 15 * 2 ^ 150)
def rootOk (j a b : Nat) : Bool := (List.range 160).all (stepOk j (qx j a) (qy b)) && turnOk (qx j a) (qy b)
theorem roots0 : (List.range 5).all (fun a => (List.range 17).all fun b => rootOk 0 a b) = true := by decide +kernel
theorem roots1 : (List.range 5).all (fun a => (List.range 17).all fun b => rootOk 1 a b) = true := by decide +kernel
theorem roots2 : (List.range 5).all (fun a => (List.range 17).all fun b => rootOk 2 a b) = true := by decide +kernel
theorem roots3 : (List.range 5).all (fun a => (List.range 17).all fun b => rootOk 3 a b) = true := by decide +kernel
theorem root_ok {j a b : Nat} (hj : j < 4) (ha : a < 5) (hb : b < 17) : rootOk j a b = true := by
  have key : (List.range 5).all (fun a => (List.range 17).all fun b => rootOk j a b) = true := by
    obtain rfl | rfl | rfl | rfl : j = 0 ∨ j = 1 ∨ j = 2 ∨ j = 3 := by omega
    · exact roots0
    · exact roots1
    · exact roots2
    · exact roots3
  rw [List.all_eq_true] at key
  have key := key a (by simp; omega)
  rw [List.all_eq_true] at key
  exact key b (by simp; omega)
end Go.Proofs.Ytlhdgbiaiacpfaa
