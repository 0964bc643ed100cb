/- Absolute differences of double words, and what is asked of them. Plain: no program. -/
import Derived.Test.YtimhljcebeiofaaGreatDoorApX
namespace Go.Proofs.YtimhljcebeiofaaGreatDoor
set_option linter.unusedSimpArgs false
set_option linter.unusedVariables false
open Ieee
/-- The absolute difference of two double words. -/
def gpW (x y : Nat) : Nat := if FloatKind.f64.format.order x y = some .lt then fA .sub .f64 y x else fA .sub .f64 x y
def gpOk (x y : Nat) : Bool := (FloatKind.f64.format.order x y).isSome && (floatBits .sub .f64 y x).isSome && (floatBits .sub .f64 x y).isSome
def leOk (x y : Nat) : Bool := FloatKind.f64.format.order x y == some .lt || FloatKind.f64.format.order x y == some .eq
def cvOk (x : Nat) : Bool := (floatToFloatBits .f32 x .f64).isSome
theorem up_runG (x : Nat) (h : (floatToFloatBits .f32 x .f64).isSome = true) : floatToFloatBits .f32 x .f64 = some (up64 x) := by
  unfold up64; revert h; cases floatToFloatBits .f32 x .f64 <;> simp
theorem leOk_some {x y : Nat} (h : leOk x y = true) : FloatKind.f64.format.order x y = some .lt ∨ FloatKind.f64.format.order x y = some .eq := by
  unfold leOk at h
  simpa [Bool.or_eq_true, beq_iff_eq] using h
section
variable {k : FloatKind} {x y : Nat} (hx : Fnt k.format x) (hy : Fnt k.format y)
include hx hy
theorem ord_lt_no (h : sv k.format y ≤ sv k.format x) : (k.format.order x y == some .lt) = false := by
  have := (order_fin hx hy).1
  rw [beq_eq_false_iff_ne]
  intro hc
  have := this.1 hc
  grind
theorem ord_gt_no (h : sv k.format x ≤ sv k.format y) : (k.format.order x y == some .gt) = false := by
  have := (order_fin hx hy).2.2
  rw [beq_eq_false_iff_ne]
  intro hc
  have := this.1 hc
  grind
theorem ord_lt_yes (h : sv k.format x < sv k.format y) : k.format.order x y = some .lt := (order_fin hx hy).1.2 h
theorem ord_gt_yes (h : sv k.format y < sv k.format x) : k.format.order x y = some .gt := (order_fin hx hy).2.2.2 h
theorem ord_eq_yes (h : sv k.format x = sv k.format y) : k.format.order x y = some .eq := (order_fin hx hy).2.1.2 h
theorem ord_ge_or (h : sv k.format y ≤ sv k.format x) : k.format.order x y = some .gt ∨ k.format.order x y = some .eq := by
  by_cases h1 : sv k.format y < sv k.format x
  · exact .inl (ord_gt_yes hx hy h1)
  · exact .inr (ord_eq_yes hx hy (by grind))
theorem ord_le_or (h : sv k.format x ≤ sv k.format y) : k.format.order x y = some .lt ∨ k.format.order x y = some .eq := by
  by_cases h1 : sv k.format x < sv k.format y
  · exact .inl (ord_lt_yes hx hy h1)
  · exact .inr (ord_eq_yes hx hy (by grind))
end
/-- An absolute difference of doubles is near the exact one. -/
theorem gp_near {x y : Nat} (hx : Fnt double x) (hy : Fnt double y) (h : av (sv double x - sv double y) ≤ 100) : gpOk x y = true ∧ Fnt double (gpW x y) ∧ av (sv double (gpW x y) - av (sv double x - sv double y)) ≤ 1 / 10000000000000 := by
  have ax : Ap .f64 x (sv double x) 0 := Ap.self (k := .f64) hx
  have ay : Ap .f64 y (sv double y) 0 := Ap.self (k := .f64) hy
  have h' : av (sv double y - sv double x) ≤ 100 := by rw [show sv double y - sv double x = -(sv double x - sv double y) by grind, av_neg]; exact h
  obtain ⟨a1, a2⟩ := ap_sub (k := .f64) (E := 1 / 10000000000000) ax ay (A := 100) h (by decide +kernel) (by decide +kernel)
  obtain ⟨b1, b2⟩ := ap_sub (k := .f64) (E := 1 / 10000000000000) ay ax (A := 100) h' (by decide +kernel) (by decide +kernel)
  obtain ⟨o1, o2, o3⟩ := order_fin hx hy
  have ho : (FloatKind.f64.format.order x y).isSome = true := by
    show (double.order x y).isSome = true
    by_cases c1 : sv double x < sv double y
    · rw [o1.2 c1]; rfl
    · by_cases c2 : sv double x = sv double y
      · rw [o2.2 c2]; rfl
      · rw [o3.2 (by grind)]; rfl
  refine ⟨by unfold gpOk; rw [ho, b1, a1]; rfl, ?_⟩
  unfold gpW
  split
  · rename_i hlt
    have hlt : sv double x < sv double y := o1.1 hlt
    refine ⟨b2.1, ?_⟩
    have : av (sv double x - sv double y) = sv double y - sv double x := by
      rw [show sv double x - sv double y = -(sv double y - sv double x) by grind, av_neg, av_of_nonneg (by grind)]
    rw [this]
    exact b2.2
  · rename_i hge
    have hge : sv double y ≤ sv double x := by
      by_cases c : sv double y ≤ sv double x
      · exact c
      · exact absurd (o1.2 (by grind)) hge
    refine ⟨a2.1, ?_⟩
    rw [show av (sv double x - sv double y) = sv double x - sv double y from av_of_nonneg (by clear o1 o2 o3; grind)]
    exact a2.2

end Go.Proofs.YtimhljcebeiofaaGreatDoor
