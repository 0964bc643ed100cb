/- Circles: absolute values, phasors. -/
import Derived.Test.YtimhljcebeiofaaGreatDoorCir1
import Derived.Test.YtimhljcebeiofaaGreatDoorSam
namespace Go.Proofs.YtimhljcebeiofaaGreatDoor
set_option linter.unusedSimpArgs false
set_option linter.unusedVariables false
open Go.RowKit
open Ieee
/-- A number's word without its sign. -/
def abs64 (x : Nat) : Nat := x % 9223372036854775808
def absOk (x : Nat) : Bool := bits .andNot .u64 (x : Int) 9223372036854775808 == ((abs64 x : Nat) : Int)
/-- A phasor's parts before they are narrowed. -/
def phc (q r : Nat) : Nat := match q with
  | 0 => snW (fj (16 - r))
  | 1 => fA .sub .f64 0 (snW (fj r))
  | 2 => fA .sub .f64 0 (snW (fj (16 - r)))
  | _ => snW (fj r)
def phs (q r : Nat) : Nat := match q with
  | 0 => snW (fj r)
  | 1 => snW (fj (16 - r))
  | 2 => fA .sub .f64 0 (snW (fj r))
  | _ => fA .sub .f64 0 (snW (fj (16 - r)))
def phOk (x : Nat) (i : Int) (q r : Nat) : Bool := (floatBits .sub .f64 x x == some 0) && absOk x && (FloatKind.f64.format.order (abs64 x) 4841369599423283200 == some .lt) && frOk x i && (frR x i == fj (16 * q + r))
theorem fj_down : ∀ q : Nat, q < 3 → ∀ r : Nat, r < 16 → (floatBits .sub .f64 (fj (16 * (q + 1) + r)) 4598175219545276416).isSome = true ∧ fA .sub .f64 (fj (16 * (q + 1) + r)) 4598175219545276416 = fj (16 * q + r) ∧ (FloatKind.f64.format.order (fj (16 * (q + 1) + r)) 4598175219545276416 = some .gt ∨ FloatKind.f64.format.order (fj (16 * (q + 1) + r)) 4598175219545276416 = some .eq) := by decide +kernel
theorem fj_low : ∀ r : Nat, r < 16 → FloatKind.f64.format.order (fj r) 4598175219545276416 = some .lt ∧ (floatBits .sub .f64 4598175219545276416 (fj r)).isSome = true ∧ fA .sub .f64 4598175219545276416 (fj r) = fj (16 - r) ∧ (floatBits .sub .f64 0 (snW (fj r))).isSome = true ∧ (floatBits .sub .f64 0 (snW (fj (16 - r)))).isSome = true := by decide +kernel
theorem ph_nar : ∀ q : Nat, q < 4 → ∀ r : Nat, r < 16 → (floatToFloatBits .f64 (phc q r) .f32).isSome = true ∧ (floatToFloatBits .f64 (phs q r) .f32).isSome = true := by decide +kernel
def intOf : Value → Nat
  | .int _ n => n.toNat
  | _ => 0

end Go.Proofs.YtimhljcebeiofaaGreatDoor
