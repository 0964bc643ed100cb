/- Circles, plain: sines of 64ths of turns. -/
import Derived.Test.YtimhljcebeiofaaGreatDoorLnp
namespace Go.Proofs.YtimhljcebeiofaaGreatDoor
set_option linter.unusedSimpArgs false
set_option linter.unusedVariables false
open Go.RowKit
open Ieee
/-- The loop's counter, from 8 down. -/
def kC (i : Nat) : Nat := floatOfInt .f64 (8 - (i : Int))
def dC (i : Nat) : Nat := fA .mul .f64 (fA .mul .f64 4611686018427387904 (kC i)) (fA .add .f64 (fA .mul .f64 4611686018427387904 (kC i)) 4607182418800017408)
/-- The row of a sine. -/
def snK (u : Nat) : Nat → Nat
  | 0 => 4607182418800017408
  | i + 1 => fA .sub .f64 4607182418800017408 (fA .quo .f64 (fA .mul .f64 u (snK u i)) (dC i))
/-- j 64ths of a turn. -/
def fj (j : Nat) : Nat := fA .quo .f64 (floatOfInt .f64 (j : Int)) (floatOfInt .f64 64)
def zC (f : Nat) : Nat := fA .mul .f64 f 4618760256179416344
def uC (f : Nat) : Nat := fA .mul .f64 (zC f) (zC f)
def snW (f : Nat) : Nat := fA .mul .f64 (zC f) (snK (uC f) 8)
theorem kC_all : ∀ i : Nat, i < 8 → (floatBits .mul .f64 4611686018427387904 (kC i)).isSome = true ∧ (floatBits .add .f64 (fA .mul .f64 4611686018427387904 (kC i)) 4607182418800017408).isSome = true ∧ (floatBits .mul .f64 (fA .mul .f64 4611686018427387904 (kC i)) (fA .add .f64 (fA .mul .f64 4611686018427387904 (kC i)) 4607182418800017408)).isSome = true ∧
    (floatBits .sub .f64 (kC i) 4607182418800017408).isSome = true ∧ fA .sub .f64 (kC i) 4607182418800017408 = kC (i + 1) ∧ FloatKind.f64.format.order (kC i) 4607182418800017408 ≠ some .lt ∧ (FloatKind.f64.format.order (kC i) 4607182418800017408).isSome = true := by decide +kernel
theorem kC_end : FloatKind.f64.format.order (kC 8) 4607182418800017408 = some .lt := by decide +kernel
theorem snK_all : ∀ j : Nat, j < 17 → ∀ i : Nat, i < 8 → (floatBits .mul .f64 (uC (fj j)) (snK (uC (fj j)) i)).isSome = true ∧ (floatBits .quo .f64 (fA .mul .f64 (uC (fj j)) (snK (uC (fj j)) i)) (dC i)).isSome = true ∧ (floatBits .sub .f64 4607182418800017408 (fA .quo .f64 (fA .mul .f64 (uC (fj j)) (snK (uC (fj j)) i)) (dC i))).isSome = true := by decide +kernel
theorem zC_all : ∀ j : Nat, j < 17 → (floatBits .mul .f64 (fj j) 4618760256179416344).isSome = true ∧ (floatBits .mul .f64 (zC (fj j)) (zC (fj j))).isSome = true ∧ (floatBits .mul .f64 (zC (fj j)) (snK (uC (fj j)) 8)).isSome = true ∧ FloatKind.f64.format.order (fj j) 4602678819172646912 = some .lt ∧ (FloatKind.f64.format.order (fj j) 4598175219545276416 = some .lt ∨ FloatKind.f64.format.order (fj j) 4598175219545276416 = some .eq) := by decide +kernel

end Go.Proofs.YtimhljcebeiofaaGreatDoor
