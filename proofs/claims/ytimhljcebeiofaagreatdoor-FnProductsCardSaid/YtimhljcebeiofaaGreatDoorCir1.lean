/- Circles: fractions of turns and sines. -/
import Derived.Test.YtimhljcebeiofaaGreatDoorCirP
import Derived.Test.YtimhljcebeiofaaGreatDoorFlt
import Derived.IntWalk
namespace Go.Proofs.YtimhljcebeiofaaGreatDoor
set_option linter.unusedSimpArgs false
set_option linter.unusedVariables false
open Go.RowKit
open Ieee
/-- A float64 narrowed. -/
def dn32 (x : Nat) : Nat := (floatToFloatBits .f64 x .f32).getD 0
theorem up_run (x : Nat) (h : (floatToFloatBits .f32 x .f64).isSome = true) : floatToFloatBits .f32 x .f64 = some (up64 x) := by
  unfold up64; revert h; cases floatToFloatBits .f32 x .f64 <;> simp
theorem dn_run (x : Nat) (h : (floatToFloatBits .f64 x .f32).isSome = true) : floatToFloatBits .f64 x .f32 = some (dn32 x) := by
  unfold dn32; revert h; cases floatToFloatBits .f64 x .f32 <;> simp
/-- What a fraction comes to. -/
def frA (x : Nat) (i : Int) : Nat := fA .sub .f64 x (floatOfInt .f64 i)
def frR (x : Nat) (i : Int) : Nat := if FloatKind.f64.format.order (frA x i) 0 = some .lt then fA .add .f64 (frA x i) 4607182418800017408 else frA x i
def frOk (x : Nat) (i : Int) : Bool := (floatToIntVal .f64 x .i64 == some i) && (floatBits .sub .f64 x (floatOfInt .f64 i)).isSome && (FloatKind.f64.format.order (frA x i) 0).isSome && (FloatKind.f64.format.order (frA x i) 0 != some .lt || (floatBits .add .f64 (frA x i) 4607182418800017408).isSome)
/-- Sines of a fraction that is at most a quarter. -/
def snOk (f : Nat) : Bool := frOk f 0 && (frR f 0 == f) && (floatBits .mul .f64 f 4618760256179416344).isSome && (floatBits .mul .f64 (zC f) (zC f)).isSome && (floatBits .mul .f64 (zC f) (snK (uC f) 8)).isSome && (FloatKind.f64.format.order f 4602678819172646912 == some .lt) && (FloatKind.f64.format.order f 4598175219545276416 == some .lt || FloatKind.f64.format.order f 4598175219545276416 == some .eq)
def snIn (u : Nat) (i : Nat) : Bool := (floatBits .mul .f64 u (snK u i)).isSome && (floatBits .quo .f64 (fA .mul .f64 u (snK u i)) (dC i)).isSome && (floatBits .sub .f64 4607182418800017408 (fA .quo .f64 (fA .mul .f64 u (snK u i)) (dC i))).isSome
theorem snOk_all : ∀ j : Nat, j < 17 → snOk (fj j) = true := by decide +kernel
theorem snIn_all : ∀ j : Nat, j < 17 → ∀ i : Nat, i < 8 → snIn (uC (fj j)) i = true := by decide +kernel
/-- Which of the row's factors is due. -/
def snI (x : Value) : Nat := match x with
  | .float _ b => ((List.range 9).find? fun (i : Nat) => kC i == b).getD 0
  | _ => 0
theorem snI_all : ∀ i : Nat, i < 9 → snI (.float .f64 (kC i)) = i := by decide +kernel

end Go.Proofs.YtimhljcebeiofaaGreatDoor
