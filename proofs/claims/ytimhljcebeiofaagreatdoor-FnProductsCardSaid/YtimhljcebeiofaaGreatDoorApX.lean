/- Words near exact values: what is reckoned of them stays near. Plain: no program. -/
import Derived.Test.YtimhljcebeiofaaGreatDoorErr
namespace Go.Proofs.YtimhljcebeiofaaGreatDoor
set_option linter.unusedSimpArgs false
set_option linter.unusedVariables false
open Ieee

theorem le_av (v : Rat) : v ≤ av v := by unfold av; split <;> grind
theorem neg_le_av (v : Rat) : -v ≤ av v := by unfold av; split <;> grind
theorem av_mul_le' {a b A B : Rat} (ha : av a ≤ A) (hb : av b ≤ B) : av (a * b) ≤ A * B := by
  rw [av_mul]
  exact Rat.le_trans (Rat.mul_le_mul_of_nonneg_right ha (av_nonneg _)) (Rat.mul_le_mul_of_nonneg_left hb (Rat.le_trans (av_nonneg _) ha))
/-- A bound that no word behind it passes. -/
def huge : FloatKind → Rat
  | .f32 => pv 1 ((120 : Nat) : Int)
  | .f64 => pv 1 ((1000 : Nat) : Int)
def ulp : FloatKind → Rat
  | .f32 => es
  | .f64 => ed
def tin : FloatKind → Rat
  | .f32 => ts
  | .f64 => td
/-- A finite word whose value is within e of v. -/
def Ap (k : FloatKind) (x : Nat) (v e : Rat) : Prop := Fnt k.format x ∧ av (sv k.format x - v) ≤ e
theorem Ap.ge0 {k : FloatKind} {x : Nat} {v e : Rat} (h : Ap k x v e) : 0 ≤ e := Rat.le_trans (av_nonneg _) h.2
theorem Ap.mono {k : FloatKind} {x : Nat} {v e f : Rat} (h : Ap k x v e) (hf : e ≤ f) : Ap k x v f := ⟨h.1, Rat.le_trans h.2 hf⟩
theorem Ap.move {k : FloatKind} {x : Nat} {v u e d f : Rat} (h : Ap k x v e) (hd : av (v - u) ≤ d) (hf : e + d ≤ f) : Ap k x u f := by
  refine ⟨h.1, ?_⟩
  have := av_add (sv k.format x - v) (v - u)
  rw [show sv k.format x - v + (v - u) = sv k.format x - u by grind] at this
  have := h.2
  grind
theorem Ap.val {k : FloatKind} {x : Nat} {v e A : Rat} (h : Ap k x v e) (hv : av v ≤ A) : av (sv k.format x) ≤ A + e := by
  have := av_add (sv k.format x - v) v
  rw [show sv k.format x - v + v = sv k.format x by grind] at this
  have := h.2
  grind
theorem Ap.self {k : FloatKind} {x : Nat} (h : Fnt k.format x) : Ap k x (sv k.format x) 0 := ⟨h, by rw [show sv k.format x - sv k.format x = 0 by grind]; decide +kernel⟩
theorem Ap.ex {k : FloatKind} {x : Nat} {v : Rat} (h : Fnt k.format x) (hv : sv k.format x = v) : Ap k x v 0 := by rw [← hv]; exact Ap.self h
theorem huge_bd {k : FloatKind} {w : Nat} {v : Rat} (h : Rnd k.format v w) (hv : av v ≤ huge k) : Fnt k.format w := by
  cases k
  · exact (bd_rnd (k := .f32) (e := 120) h hv).fnt (by decide)
  · exact (bd_rnd (k := .f64) (e := 1000) h hv).fnt (by decide)
theorem ap_rnd {k : FloatKind} {w : Nat} {t v e A : Rat} (h : Rnd k.format t w) (ht : av (t - v) ≤ e) (hv : av v ≤ A) (hA : A + e ≤ huge k) : Ap k w v (e + (A + e) * ulp k + tin k) := by
  have h1 : av t ≤ A + e := by
    have := av_add (t - v) v
    rw [show t - v + v = t by grind] at this
    grind
  have hf : Fnt k.format w := huge_bd h (Rat.le_trans h1 hA)
  refine ⟨hf, ?_⟩
  have hr : av (sv k.format w - t) ≤ av t * ulp k + tin k := by
    cases k
    · exact err_s h hf
    · exact err_d h hf
  have hu : 0 ≤ ulp k := by cases k <;> decide +kernel
  have h2 := Rat.mul_le_mul_of_nonneg_right h1 hu
  have h3 := av_add (sv k.format w - t) (t - v)
  rw [show sv k.format w - t + (t - v) = sv k.format w - v by grind] at h3
  grind
theorem ap_add {k : FloatKind} {x y : Nat} {v u e d A E : Rat} (hx : Ap k x v e) (hy : Ap k y u d) (hA : av (v + u) ≤ A) (hh : A + (e + d) ≤ huge k) (hE : e + d + (A + (e + d)) * ulp k + tin k ≤ E) :
    (floatBits .add k x y).isSome = true ∧ Ap k (fA .add k x y) (v + u) E := by
  obtain ⟨w, h1, h2, _⟩ := add_spec (k_hf k) hx.1 hy.1
  obtain ⟨a1, a2⟩ := fA_of (op := .add) (k := k) h1
  rw [a2]
  refine ⟨a1, (ap_rnd h2 ?_ hA hh).mono hE⟩
  have := av_add (sv k.format x - v) (sv k.format y - u)
  rw [show sv k.format x - v + (sv k.format y - u) = sv k.format x + sv k.format y - (v + u) by grind] at this
  have := hx.2
  have := hy.2
  grind
theorem ap_sub {k : FloatKind} {x y : Nat} {v u e d A E : Rat} (hx : Ap k x v e) (hy : Ap k y u d) (hA : av (v - u) ≤ A) (hh : A + (e + d) ≤ huge k) (hE : e + d + (A + (e + d)) * ulp k + tin k ≤ E) :
    (floatBits .sub k x y).isSome = true ∧ Ap k (fA .sub k x y) (v - u) E := by
  obtain ⟨w, h1, h2, _⟩ := sub_spec (k_hf k) hx.1 hy.1
  obtain ⟨a1, a2⟩ := fA_of (op := .sub) (k := k) h1
  rw [a2]
  refine ⟨a1, (ap_rnd h2 ?_ hA hh).mono hE⟩
  have := av_add (sv k.format x - v) (-(sv k.format y - u))
  rw [show sv k.format x - v + -(sv k.format y - u) = sv k.format x - sv k.format y - (v - u) by grind, av_neg] at this
  have := hx.2
  have := hy.2
  grind
theorem ap_mul {k : FloatKind} {x y : Nat} {v u e d A B E : Rat} (hx : Ap k x v e) (hy : Ap k y u d) (hA : av v ≤ A) (hB : av u ≤ B) (hh : A * B + (e * (B + d) + A * d) ≤ huge k) (hE : e * (B + d) + A * d + (A * B + (e * (B + d) + A * d)) * ulp k + tin k ≤ E) :
    (floatBits .mul k x y).isSome = true ∧ Ap k (fA .mul k x y) (v * u) E := by
  obtain ⟨w, h1, h2⟩ := mul_rnd (k_hf k) hx.1 hy.1
  obtain ⟨a1, a2⟩ := fA_of (op := .mul) (k := k) h1
  rw [a2]
  refine ⟨a1, (ap_rnd h2 ?_ (av_mul_le' hA hB) hh).mono hE⟩
  have m1 := av_mul_le' hx.2 (hy.val hB)
  have m2 := av_mul_le' hA hy.2
  have := av_add ((sv k.format x - v) * sv k.format y) (v * (sv k.format y - u))
  rw [show (sv k.format x - v) * sv k.format y + v * (sv k.format y - u) = sv k.format x * sv k.format y - v * u by grind] at this
  grind
/-- A quotient: Q bounds the exact one, c the divisor from below. -/
theorem ap_div {k : FloatKind} {x y : Nat} {v u e d c Q E : Rat} (hx : Ap k x v e) (hy : Ap k y u d) (hc : 0 < c) (hu : c + d ≤ av u) (hQ : av (v / u) ≤ Q) (hh : Q + (e + Q * d) / c ≤ huge k) (hE : (e + Q * d) / c + (Q + (e + Q * d) / c) * ulp k + tin k ≤ E) :
    (floatBits .quo k x y).isSome = true ∧ Ap k (fA .quo k x y) (v / u) E := by
  have d0 := hy.ge0
  have hyc : c ≤ av (sv k.format y) := by
    have := av_add (sv k.format y) (-(sv k.format y - u))
    rw [show sv k.format y + -(sv k.format y - u) = u by grind, av_neg] at this
    have := hy.2
    grind
  have hy0 : rg k.format y ≠ 0 := by
    intro h
    rw [av_sv, h, rv_zero] at hyc
    grind
  have hu0 : u ≠ 0 := by
    rintro rfl
    have : av 0 = 0 := rfl
    grind
  have hs0 : sv k.format y ≠ 0 := by
    intro h
    rw [h] at hyc
    have : av 0 = 0 := rfl
    grind
  obtain ⟨w, h1, h2⟩ := div_rnd (k_hf k) hx.1 hy.1 hy0
  obtain ⟨a1, a2⟩ := fA_of (op := .quo) (k := k) h1
  rw [a2]
  refine ⟨a1, (ap_rnd h2 ?_ hQ hh).mono hE⟩
  have m1 := av_mul_le' hQ hy.2
  have m2 := av_add (sv k.format x - v) (-(v / u * (sv k.format y - u)))
  rw [av_neg] at m2
  have e1 : (sv k.format x / sv k.format y - v / u) * sv k.format y = sv k.format x - v + -(v / u * (sv k.format y - u)) := by grind
  have m3 : av (sv k.format x / sv k.format y - v / u) * av (sv k.format y) ≤ e + Q * d := by
    rw [← av_mul, e1]
    have := hx.2
    grind
  have m4 := Rat.mul_le_mul_of_nonneg_left hyc (av_nonneg (sv k.format x / sv k.format y - v / u))
  generalize av (sv k.format x / sv k.format y - v / u) = q at *
  have e2 : (e + Q * d) / c * c = e + Q * d := Rat.div_mul_cancel (by grind)
  by_cases h : q ≤ (e + Q * d) / c
  · exact h
  · have := Rat.mul_lt_mul_of_pos_right (show (e + Q * d) / c < q by grind) hc
    grind
theorem k_huge32 : huge .f32 = pv 1 ((120 : Nat) : Int) := rfl
/-- Narrowing. -/
theorem ap_down {x : Nat} {v e A E : Rat} (hx : Ap .f64 x v e) (hA : av v ≤ A) (hh : A + e ≤ huge .f32) (hE : e + (A + e) * es + ts ≤ E) :
    floatToFloatBits .f64 x .f32 = some ((floatToFloatBits .f64 x .f32).getD 0) ∧ Ap .f32 ((floatToFloatBits .f64 x .f32).getD 0) v E := by
  have hb : Bd .f64 120 x := Rat.le_trans (hx.val hA) hh
  obtain ⟨r, r1, r2, r3⟩ := conv_down hb (by decide)
  rw [r1]
  refine ⟨rfl, ?_⟩
  exact (ap_rnd (k := .f32) r3 hx.2 hA hh).mono hE
/-- Widening is exact. -/
theorem ap_up {x : Nat} {v e : Rat} (hx : Ap .f32 x v e) : floatToFloatBits .f32 x .f64 = some (up64 x) ∧ Ap .f64 (up64 x) v e ∧ sv double (up64 x) = sv single x := by
  obtain ⟨r, h1, h2, h3, h4⟩ := conv_up hx.1
  have hu : up64 x = r := by unfold up64; rw [h1]; rfl
  have hs : sv double r = sv single x := by unfold sv; rw [h3, h4]
  rw [hu]
  refine ⟨h1, ⟨h2, ?_⟩, hs⟩
  have := hx.2
  rw [show FloatKind.f64.format = double from rfl, hs]
  exact this

end Go.Proofs.YtimhljcebeiofaaGreatDoor
