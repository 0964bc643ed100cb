/- Circles: products of phasors, the other three quarters. -/
import Derived.Test.YtimhljcebeiofaaCirC
namespace Go.Proofs.Ytimhljcebeiofaa
set_option linter.unusedSimpArgs false
set_option linter.unusedVariables false
open Go.RowKit
open Ieee
theorem chM_1 : ∀ i : Nat, i < 16 → ∀ j : Nat, j < 64 → chM (i + 16) j = true := by decide +kernel
theorem chM_2 : ∀ i : Nat, i < 16 → ∀ j : Nat, j < 64 → chM (i + 32) j = true := by decide +kernel
theorem chM_3 : ∀ i : Nat, i < 16 → ∀ j : Nat, j < 64 → chM (i + 48) j = true := by decide +kernel
theorem chM_all {i j : Nat} (hi : i < 64) (hj : j < 64) : chM i j = true := by
  rcases (show i < 16 ∨ 16 ≤ i ∧ i < 32 ∨ 32 ≤ i ∧ i < 48 ∨ 48 ≤ i by omega) with h | h | h | h
  · exact chM_0 i h j hj
  · have := chM_1 (i - 16) (by omega) j hj
    rwa [show i - 16 + 16 = i by omega] at this
  · have := chM_2 (i - 32) (by omega) j hj
    rwa [show i - 32 + 32 = i by omega] at this
  · have := chM_3 (i - 48) (by omega) j hj
    rwa [show i - 48 + 48 = i by omega] at this

end Go.Proofs.Ytimhljcebeiofaa
