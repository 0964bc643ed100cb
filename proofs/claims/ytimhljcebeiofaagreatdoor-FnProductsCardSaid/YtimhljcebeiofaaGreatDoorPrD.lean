/- Products, quotients and powers of whole complex numbers: the words. Plain. -/
import Derived.Test.YtimhljcebeiofaaGreatDoorPrC
namespace Go.Proofs.YtimhljcebeiofaaGreatDoor
set_option linter.unusedSimpArgs false
set_option linter.unusedVariables false
open Go.RowKit
open Ieee
theorem neg_rg (k : FloatKind) (x : Nat) : rg k.format (Op.negFloat k x) = rg k.format x ∧ sg k.format (Op.negFloat k x) = !(sg k.format x) := by
  have e : k.format.signWeight = 2 ^ (k.format.exponentBits + k.format.fractionBits) := by cases k <;> decide
  unfold Op.negFloat rg sg
  rw [e]
  generalize k.format.exponentBits + k.format.fractionBits = n
  constructor
  · rw [Nat.xor_mod_two_pow, Nat.mod_self, Nat.xor_zero]
  · rw [Nat.xor_div_two_pow, Nat.div_self (Nat.two_pow_pos n)]
    have h := Nat.xor_mod_two_pow (a := x / 2 ^ n) (b := 1) (n := 1)
    rw [Nat.pow_one] at h
    rw [h]
    rcases Nat.mod_two_eq_zero_or_one (x / 2 ^ n) with hh | hh
    · rw [hh]; rfl
    · rw [hh]; rfl
theorem iw_neg {k : FloatKind} {x : Nat} {z : Int} (h : Iw k x z) : Iw k (Op.negFloat k x) (-z) := by
  obtain ⟨a, b⟩ := neg_rg k x
  obtain ⟨f, v⟩ := h
  refine ⟨by unfold Fnt at f ⊢; rw [a]; exact f, ?_⟩
  unfold sv at v ⊢
  rw [a, b, Rat.intCast_neg, ← v]
  cases sg k.format x
  · simp
  · simp
/-- A whole number's word. -/
def fi (z : Int) : Nat := floatOfInt .f32 z
theorem fi_iw {z : Int} (h : z.natAbs ≤ 100000) : Iw .f32 (fi z) z := iw_foi (by rw [bin32]; omega)
section
variable {p q r s : Int} {a b c d : Nat} {M N : Nat}
theorem ml_iw (ha : Iw .f32 a p) (hb : Iw .f32 b q) (hc : Iw .f32 c r) (hd : Iw .f32 d s) (hp : p.natAbs ≤ M) (hq : q.natAbs ≤ M) (hr : r.natAbs ≤ N) (hs : s.natAbs ≤ N) (hM : M ≤ 100000) (hN : N ≤ 100000) (h1 : (p * r - q * s).natAbs < 16777216) (h2 : (p * s + q * r).natAbs < 16777216) :
    mlOk a b c d = true ∧ Iw .f32 (mlR a b c d) (p * r - q * s) ∧ Iw .f32 (mlI a b c d) (p * s + q * r) := by
  obtain ⟨a1, a2⟩ := iw_up ha
  obtain ⟨b1, b2⟩ := iw_up hb
  obtain ⟨c1, c2⟩ := iw_up hc
  obtain ⟨d1, d2⟩ := iw_up hd
  obtain ⟨⟨t1, t2, t3, t4, t5, t6⟩, u, v⟩ := iw_times a2 b2 c2 d2 hp hq hr hs hM hN
  obtain ⟨u1, u2⟩ := iw_down u h1
  obtain ⟨v1, v2⟩ := iw_down v h2
  refine ⟨?_, u2, v2⟩
  unfold mlOk tmOk
  unfold tmR tmI
  rw [a1, b1, c1, d1, t1, t2, t3, t4, t5, t6, u1, v1]
  rfl
theorem pw_iw (ha : Iw .f32 a p) (hb : Iw .f32 b q) (hp : p.natAbs ≤ M) (hq : q.natAbs ≤ M) (hM : M ≤ 100000) (h1 : (p * p + q * q).natAbs < 16777216) :
    pwOk a b = true ∧ Iw .f64 (pwW a b) (p * p + q * q) ∧ Iw .f32 (dn32 (pwW a b)) (p * p + q * q) := by
  obtain ⟨a1, a2⟩ := iw_up ha
  obtain ⟨b1, b2⟩ := iw_up hb
  obtain ⟨⟨t1, t2, t3⟩, u⟩ := iw_power a2 b2 hp hq hM
  obtain ⟨u1, u2⟩ := iw_down u h1
  refine ⟨?_, u, u2⟩
  unfold pwOk
  unfold pwW
  rw [a1, b1, t1, t2, t3, u1]
  rfl
/-- A product divided by one of its parts gives the other one back. -/
theorem qt_iw {x y : Nat} (hx : Iw .f32 x (p * r - q * s)) (hy : Iw .f32 y (p * s + q * r)) (hc : Iw .f32 c r) (hd : Iw .f32 d s) (h0 : r ≠ 0 ∨ s ≠ 0) (hp : p.natAbs ≤ 200) (hq : q.natAbs ≤ 200) (hr : r.natAbs ≤ 200) (hs : s.natAbs ≤ 200) :
    QtOk x y c d ∧ Iw .f32 (qtR x y c d) p ∧ Iw .f32 (qtI x y c d) q := by
  have m1 := abs_mul hp hr
  have m2 := abs_mul hq hs
  have m3 := abs_mul hp hs
  have m4 := abs_mul hq hr
  have m5 := abs_mul hr hr
  have m6 := abs_mul hs hs
  obtain ⟨a1, a2⟩ := iw_up hx
  obtain ⟨b1, b2⟩ := iw_up hy
  obtain ⟨c1, c2⟩ := iw_up hc
  obtain ⟨d1, d2⟩ := iw_up hd
  have d3 := iw_neg d2
  obtain ⟨⟨t1, t2, t3, t4, t5, t6⟩, u, v⟩ := iw_times (M := 80000) (N := 200) a2 b2 c2 d3 (by omega) (by omega) hr (by omega) (by omega) (by omega)
  obtain ⟨p1, p2, _⟩ := pw_iw (M := 200) hc hd hr hs (by omega) (by omega)
  have P0 := pow_pos h0
  obtain ⟨x1, x2⟩ := iw_quo (z := p) u p2 P0 (by have := back_re p q r s; grind) (by rw [bin64]; omega)
  obtain ⟨y1, y2⟩ := iw_quo (z := q) v p2 P0 (by have := back_im p q r s; grind) (by rw [bin64]; omega)
  obtain ⟨z1, z2⟩ := iw_down x2 (by omega)
  obtain ⟨w1, w2⟩ := iw_down y2 (by omega)
  exact ⟨⟨a1, b1, c1, d1, by unfold tmOk; rw [t1, t2, t3, t4, t5, t6]; rfl, p1, x1, y1, z1, w1⟩, z2, w2⟩
end

end Go.Proofs.YtimhljcebeiofaaGreatDoor
