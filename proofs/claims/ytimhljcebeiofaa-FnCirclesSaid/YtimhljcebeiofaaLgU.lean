/- Logarithms of numbers that lie near one another. Plain: no program. -/
import Derived.Test.YtimhljcebeiofaaLgF
namespace Go.Proofs.Ytimhljcebeiofaa
set_option linter.unusedSimpArgs false
set_option linter.unusedVariables false
open Ieee

theorem Ln_up {x y d : Rat} (hx : 0 < x) (hy : 0 < y) (h : x ≤ y + d * y) : Ln x ≤ Ln y + d + 10 * eta := by
  obtain ⟨z, hz⟩ : ∃ z, y * z = x := ⟨x / y, by grind⟩
  have z0 : 0 < z := by
    by_cases h0 : 0 < z
    · exact h0
    · have := Rat.mul_le_mul_of_nonneg_left (show z ≤ 0 by grind) (Rat.le_of_lt hy)
      grind
  have z1 : z ≤ 1 + d := by
    by_cases h0 : z ≤ 1 + d
    · exact h0
    · have := Rat.mul_lt_mul_of_pos_left (show 1 + d < z by grind) hy
      grind
  have A := Ln_mul hy z0
  rw [hz] at A
  have B := Ln_le z0
  have C := Rat.le_trans (le_av _) A
  grind
/-- Numbers within a share of one another have logarithms that lie near. -/
theorem Ln_near {x y d : Rat} (hy : 0 < y) (hd : d ≤ 1 / 2) (h : av (x - y) ≤ d * y) : 0 < x ∧ av (Ln x - Ln y) ≤ 2 * d + 10 * eta := by
  have h1 := Rat.le_trans (le_av _) h
  have h2 := Rat.le_trans (neg_le_av _) h
  have d0 : 0 ≤ d := by
    by_cases h0 : 0 ≤ d
    · exact h0
    · have := Rat.mul_lt_mul_of_pos_right (show d < 0 by grind) hy
      have := av_nonneg (x - y)
      grind
  have k1 := Rat.mul_le_mul_of_nonneg_right hd (Rat.le_of_lt hy)
  have hx : 0 < x := by grind
  refine ⟨hx, av_le ?_ ?_⟩
  · have := Ln_up (d := d) hx hy (by grind)
    have : (0 : Rat) ≤ eta := by decide +kernel
    grind
  · have k2 := Rat.mul_le_mul_of_nonneg_left (show y ≤ 2 * x by grind) d0
    have := Ln_up (d := 2 * d) hy hx (by grind)
    grind

end Go.Proofs.Ytimhljcebeiofaa
