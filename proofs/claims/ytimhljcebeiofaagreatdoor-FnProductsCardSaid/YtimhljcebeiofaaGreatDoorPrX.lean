/- Products and quotients of whole complex numbers, exact. Plain: no program. -/
import Derived.Test.YtimhljcebeiofaaGreatDoorPrW
namespace Go.Proofs.YtimhljcebeiofaaGreatDoor
set_option linter.unusedSimpArgs false
set_option linter.unusedVariables false
open Ieee
theorem abs_mul {p r : Int} {A B : Nat} (hp : p.natAbs ≤ A) (hr : r.natAbs ≤ B) : (p * r).natAbs ≤ A * B := by
  rw [Int.natAbs_mul]; exact Nat.mul_le_mul hp hr
theorem bin64 : 2 * FloatKind.f64.format.binade = 9007199254740992 := by decide
theorem bin32 : 2 * FloatKind.f32.format.binade = 16777216 := by decide
/-- A product's parts, in 64 bits. -/
theorem iw_times {a b c d : Nat} {p q r s : Int} {M N : Nat} (ha : Iw .f64 a p) (hb : Iw .f64 b q) (hc : Iw .f64 c r) (hd : Iw .f64 d s) (hp : p.natAbs ≤ M) (hq : q.natAbs ≤ M) (hr : r.natAbs ≤ N) (hs : s.natAbs ≤ N) (hM : M ≤ 100000) (hN : N ≤ 100000) :
    ((floatBits .mul .f64 a c).isSome = true ∧ (floatBits .mul .f64 b d).isSome = true ∧ (floatBits .mul .f64 a d).isSome = true ∧ (floatBits .mul .f64 b c).isSome = true ∧ (floatBits .sub .f64 (fA .mul .f64 a c) (fA .mul .f64 b d)).isSome = true ∧ (floatBits .add .f64 (fA .mul .f64 a d) (fA .mul .f64 b c)).isSome = true) ∧
    Iw .f64 (fA .sub .f64 (fA .mul .f64 a c) (fA .mul .f64 b d)) (p * r - q * s) ∧ Iw .f64 (fA .add .f64 (fA .mul .f64 a d) (fA .mul .f64 b c)) (p * s + q * r) := by
  have k := Nat.mul_le_mul hM hN
  have m1 := abs_mul hp hr
  have m2 := abs_mul hq hs
  have m3 := abs_mul hp hs
  have m4 := abs_mul hq hr
  obtain ⟨a1, a2⟩ := iw_mul ha hc rfl (by rw [bin64]; omega)
  obtain ⟨b1, b2⟩ := iw_mul hb hd rfl (by rw [bin64]; omega)
  obtain ⟨c1, c2⟩ := iw_mul ha hd rfl (by rw [bin64]; omega)
  obtain ⟨d1, d2⟩ := iw_mul hb hc rfl (by rw [bin64]; omega)
  obtain ⟨e1, e2⟩ := iw_sub a2 b2 rfl (by rw [bin64]; omega)
  obtain ⟨f1, f2⟩ := iw_add c2 d2 rfl (by rw [bin64]; omega)
  exact ⟨⟨a1, b1, c1, d1, e1, f1⟩, e2, f2⟩
/-- A number's power, in 64 bits. -/
theorem iw_power {a b : Nat} {p q : Int} {M : Nat} (ha : Iw .f64 a p) (hb : Iw .f64 b q) (hp : p.natAbs ≤ M) (hq : q.natAbs ≤ M) (hM : M ≤ 100000) :
    ((floatBits .mul .f64 a a).isSome = true ∧ (floatBits .mul .f64 b b).isSome = true ∧ (floatBits .add .f64 (fA .mul .f64 a a) (fA .mul .f64 b b)).isSome = true) ∧ Iw .f64 (fA .add .f64 (fA .mul .f64 a a) (fA .mul .f64 b b)) (p * p + q * q) := by
  have k := Nat.mul_le_mul hM hM
  have m1 := abs_mul hp hp
  have m2 := abs_mul hq hq
  obtain ⟨a1, a2⟩ := iw_mul ha ha rfl (by rw [bin64]; omega)
  obtain ⟨b1, b2⟩ := iw_mul hb hb rfl (by rw [bin64]; omega)
  obtain ⟨e1, e2⟩ := iw_add a2 b2 rfl (by rw [bin64]; omega)
  exact ⟨⟨a1, b1, e1⟩, e2⟩
/-- What a product of whole numbers gives back when it is divided. -/
theorem back_re (p q r s : Int) : (p * r - q * s) * r + (p * s + q * r) * s = p * (r * r + s * s) := by grind
theorem back_im (p q r s : Int) : (p * s + q * r) * r - (p * r - q * s) * s = q * (r * r + s * s) := by grind
theorem pow_pos {r s : Int} (h : r ≠ 0 ∨ s ≠ 0) : r * r + s * s ≠ 0 := by
  have a : 0 ≤ r * r := by
    rcases Int.le_total 0 r with h | h
    · exact Int.mul_nonneg h h
    · exact Int.mul_nonneg_of_nonpos_of_nonpos h h
  have b : 0 ≤ s * s := by
    rcases Int.le_total 0 s with h | h
    · exact Int.mul_nonneg h h
    · exact Int.mul_nonneg_of_nonpos_of_nonpos h h
  intro hc
  have c : r * r = 0 := by omega
  have d : s * s = 0 := by omega
  rcases h with h | h
  · exact h (by rcases Int.mul_eq_zero.1 c with e | e <;> exact e)
  · exact h (by rcases Int.mul_eq_zero.1 d with e | e <;> exact e)

end Go.Proofs.YtimhljcebeiofaaGreatDoor
