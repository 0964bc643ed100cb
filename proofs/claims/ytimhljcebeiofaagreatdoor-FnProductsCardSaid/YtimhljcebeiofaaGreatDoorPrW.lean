/- Words that hold whole numbers: their sums, products and quotients are exact. Plain: no program. -/
import Derived.Test.YtimhljcebeiofaaGreatDoorFloP
namespace Go.Proofs.YtimhljcebeiofaaGreatDoor
set_option linter.unusedSimpArgs false
set_option linter.unusedVariables false
open Ieee
/-- A word that holds a whole number. -/
def Iw (k : FloatKind) (x : Nat) (z : Int) : Prop := Fnt k.format x ∧ sv k.format x = (z : Rat)
theorem int_rung (k : FloatKind) {m : Nat} (h : m < 2 * k.format.binade) : ∃ r, r < k.format.infRung ∧ rv k.format r = (m : Rat) := by
  obtain ⟨r, h1, _⟩ := exact_rung k.format (p := 0) h (by cases k <;> decide +kernel)
  have e : pv m 0 = (m : Rat) := by unfold pv; rw [Rat.zpow_zero, Rat.mul_one]
  rw [e] at h1
  refine ⟨r, ?_, h1⟩
  rcases Nat.lt_or_ge r k.format.infRung with hc | hc
  · exact hc
  · have a := rv_le k.format hc
    have b : ((2 * k.format.binade : Nat) : Rat) < rv k.format k.format.infRung := by cases k <;> decide +kernel
    have c : (m : Rat) ≤ ((2 * k.format.binade : Nat) : Rat) := by exact_mod_cast Nat.le_of_lt h
    rw [h1] at a
    grind
theorem av_int (z : Int) : av (z : Rat) = (z.natAbs : Rat) := by
  unfold av
  split
  · rename_i h
    have : z < 0 := by exact_mod_cast h
    rw [show ((z.natAbs : Nat) : Rat) = (((z.natAbs : Nat) : Int) : Rat) from rfl, show ((z.natAbs : Nat) : Int) = -z by omega, Rat.intCast_neg]
  · rename_i h
    have : 0 ≤ z := by
      by_cases hc : z < 0
      · exact absurd (show (z : Rat) < 0 by exact_mod_cast hc) h
      · omega
    rw [show ((z.natAbs : Nat) : Rat) = (((z.natAbs : Nat) : Int) : Rat) from rfl, show ((z.natAbs : Nat) : Int) = z by omega]
theorem iw_rnd {k : FloatKind} {v : Rat} {w : Nat} {z : Int} (h : Rnd k.format v w) (hv : v = (z : Rat)) (hz : z.natAbs < 2 * k.format.binade) : Iw k w z := by
  obtain ⟨r, r1, r2⟩ := int_rung k hz
  subst hv
  exact rnd_exact h (by rw [r2, av_int]) r1
theorem iw_foi {k : FloatKind} {z : Int} (hz : z.natAbs < 2 * k.format.binade) : Iw k (floatOfInt k z) z := by
  have hr : Rnd k.format (z : Rat) (floatOfInt k z) := by
    have h1 : (0 : Rat) < (z : Rat) → decide (z < 0) = false := fun h => by
      have h2 : 0 < z := by exact_mod_cast h
      exact decide_eq_false (by omega)
    have h3 : (z : Rat) < 0 → decide (z < 0) = true := fun h => by
      have h2 : z < 0 := by exact_mod_cast h
      exact decide_eq_true h2
    exact nearest_rnd k.format (k_hf k) (decide (z < 0)) z.natAbs 0 (z : Rat) (by rw [av_int]; unfold pv; rw [Rat.zpow_zero, Rat.mul_one]) h1 h3
  exact iw_rnd hr rfl hz
theorem iw_add {k : FloatKind} {x y : Nat} {a b z : Int} (hx : Iw k x a) (hy : Iw k y b) (e : a + b = z) (hz : z.natAbs < 2 * k.format.binade) : (floatBits .add k x y).isSome = true ∧ Iw k (fA .add k x y) z := by
  obtain ⟨w, w1, w2, _⟩ := add_spec (k_hf k) hx.1 hy.1
  obtain ⟨c1, c2⟩ := fA_of (op := .add) (k := k) w1
  refine ⟨c1, ?_⟩
  rw [c2]
  exact iw_rnd w2 (by rw [hx.2, hy.2, ← e, Rat.intCast_add]) hz
theorem iw_sub {k : FloatKind} {x y : Nat} {a b z : Int} (hx : Iw k x a) (hy : Iw k y b) (e : a - b = z) (hz : z.natAbs < 2 * k.format.binade) : (floatBits .sub k x y).isSome = true ∧ Iw k (fA .sub k x y) z := by
  obtain ⟨w, w1, w2, _⟩ := sub_spec (k_hf k) hx.1 hy.1
  obtain ⟨c1, c2⟩ := fA_of (op := .sub) (k := k) w1
  refine ⟨c1, ?_⟩
  rw [c2]
  exact iw_rnd w2 (by rw [hx.2, hy.2, ← e, Rat.intCast_sub]) hz
theorem iw_mul {k : FloatKind} {x y : Nat} {a b z : Int} (hx : Iw k x a) (hy : Iw k y b) (e : a * b = z) (hz : z.natAbs < 2 * k.format.binade) : (floatBits .mul k x y).isSome = true ∧ Iw k (fA .mul k x y) z := by
  obtain ⟨w, w1, w2⟩ := mul_rnd (k_hf k) hx.1 hy.1
  obtain ⟨c1, c2⟩ := fA_of (op := .mul) (k := k) w1
  refine ⟨c1, ?_⟩
  rw [c2]
  exact iw_rnd w2 (by rw [hx.2, hy.2, ← e, Rat.intCast_mul]) hz
theorem iw_quo {k : FloatKind} {x y : Nat} {a b z : Int} (hx : Iw k x a) (hy : Iw k y b) (b0 : b ≠ 0) (e : z * b = a) (hz : z.natAbs < 2 * k.format.binade) : (floatBits .quo k x y).isSome = true ∧ Iw k (fA .quo k x y) z := by
  have hb : (b : Rat) ≠ 0 := by exact_mod_cast b0
  have hr : rg k.format y ≠ 0 := by
    intro hc
    have h2 := hy.2
    have : av (sv k.format y) = 0 := by rw [av_sv, hc, rv_zero]
    rw [h2, av_int] at this
    have : b.natAbs = 0 := by exact_mod_cast this
    omega
  obtain ⟨w, w1, w2⟩ := div_rnd (k_hf k) hx.1 hy.1 hr
  obtain ⟨c1, c2⟩ := fA_of (op := .quo) (k := k) w1
  refine ⟨c1, ?_⟩
  rw [c2]
  refine iw_rnd w2 ?_ hz
  rw [hx.2, hy.2, ← e, Rat.intCast_mul, Rat.div_def, Rat.mul_assoc, Rat.mul_inv_cancel _ hb, Rat.mul_one]
theorem iw_up {x : Nat} {z : Int} (h : Iw .f32 x z) : (floatToFloatBits .f32 x .f64).isSome = true ∧ Iw .f64 (up64 x) z := by
  obtain ⟨a, b, c⟩ := ap_up (Ap.self (k := .f32) h.1)
  exact ⟨by rw [a]; rfl, b.1, by rw [show FloatKind.f64.format = double from rfl, c]; exact h.2⟩
theorem iw_down {x : Nat} {z : Int} (h : Iw .f64 x z) (hz : z.natAbs < 16777216) : (floatToFloatBits .f64 x .f32).isSome = true ∧ Iw .f32 ((floatToFloatBits .f64 x .f32).getD 0) z := by
  have hb : Bd .f64 24 x := by
    unfold Bd
    rw [h.2, av_int]
    have : ((z.natAbs : Nat) : Rat) ≤ 16777216 := by exact_mod_cast Nat.le_of_lt hz
    exact Rat.le_trans this (by decide +kernel)
  obtain ⟨r, r1, r2, r3⟩ := conv_down hb (by decide)
  rw [r1]
  exact ⟨rfl, iw_rnd (k := .f32) r3 h.2 (by rw [show 2 * FloatKind.f32.format.binade = 16777216 by decide]; exact hz)⟩
theorem iw_eq {k : FloatKind} {x y : Nat} {z : Int} (hx : Iw k x z) (hy : Iw k y z) : k.format.order x y = some .eq := (order_fin hx.1 hy.1).2.1.2 (by rw [hx.2, hy.2])

end Go.Proofs.YtimhljcebeiofaaGreatDoor
