/- Bounds of floats by powers of two, at both precisions. Plain: no program. -/
import Derived.Test.YtimhljcebeiofaaGreatDoorFw
namespace Go.Proofs.YtimhljcebeiofaaGreatDoor
set_option linter.unusedSimpArgs false
set_option linter.unusedVariables false
open Ieee

def bias : FloatKind → Nat
  | .f32 => 127
  | .f64 => 1023
/-- The word of 2 to the power of e. -/
def WK (k : FloatKind) (e : Nat) : Nat := (bias k + e) * k.format.binade
theorem k_hf (k : FloatKind) : 1 ≤ k.format.fractionBits := by cases k <;> decide
theorem k_inf (k : FloatKind) : k.format.infRung = (2 * bias k + 1) * k.format.binade := by cases k <;> decide
theorem rv_WK (k : FloatKind) (e : Nat) : rv k.format (WK k e) = pv 1 e := by
  have h := rv_at k.format (bias k - 1 + e) k.format.binade (.inr ⟨Nat.le_refl _, by have := binade_pos k.format; omega⟩)
  have hb : 1 ≤ bias k := by cases k <;> decide
  have hW : (bias k - 1 + e) * k.format.binade + k.format.binade = WK k e := by
    unfold WK
    rw [show bias k + e = (bias k - 1 + e) + 1 by omega, Nat.add_mul _ 1, Nat.one_mul]
  have hS := pv_shift 1 k.format.fractionBits (k.format.leastPlace + ((bias k - 1 + e : Nat) : Int))
  have h2 : 1 * 2 ^ k.format.fractionBits = k.format.binade := Nat.one_mul _
  rw [h2] at hS
  have h3 : k.format.leastPlace = 1 - (bias k : Int) - (k.format.fractionBits : Int) := by cases k <;> decide
  have h4 : k.format.leastPlace + ((bias k - 1 + e : Nat) : Int) + (k.format.fractionBits : Int) = (e : Int) := by rw [h3]; omega
  rw [h4] at hS
  rw [← hW, h, hS]
/-- At most 2 to the power of e, without its sign. -/
def Bd (k : FloatKind) (e : Nat) (x : Nat) : Prop := av (sv k.format x) ≤ pv 1 e
theorem Bd.le {k : FloatKind} {e : Nat} {x : Nat} (h : Bd k e x) : rg k.format x ≤ WK k e := by
  unfold Bd at h
  rw [av_sv, ← rv_WK] at h
  exact (rv_le_iff _).1 h
theorem Bd.of {k : FloatKind} {e : Nat} {x : Nat} (h : rg k.format x ≤ WK k e) : Bd k e x := by
  unfold Bd
  rw [av_sv, ← rv_WK]
  exact rv_le _ h
theorem WK_lt {k : FloatKind} {e : Nat} (he : e ≤ bias k) : WK k e < k.format.infRung := by
  rw [k_inf]; unfold WK
  exact Nat.mul_lt_mul_of_pos_right (by omega) (binade_pos _)
theorem Bd.fnt {k : FloatKind} {e : Nat} {x : Nat} (h : Bd k e x) (he : e ≤ bias k) : Fnt k.format x := Nat.lt_of_le_of_lt h.le (WK_lt he)
theorem p2_le {a b : Nat} (h : a ≤ b) : pv 1 (a : Int) ≤ pv 1 (b : Int) := pv_mono_place (by omega)
theorem Bd.mono {k : FloatKind} {e e' : Nat} {x : Nat} (h : Bd k e x) (he : e ≤ e') : Bd k e' x := by
  unfold Bd at *
  exact Rat.le_trans h (p2_le he)
theorem bd_rnd {k : FloatKind} {e : Nat} {v : Rat} {w : Nat} (h : Rnd k.format v w) (hv : av v ≤ pv 1 e) : Bd k e w :=
  Bd.of (h.le (by rw [rv_WK]; exact hv))
theorem p2_dbl (e : Nat) : pv 1 ((e + 1 : Nat) : Int) = pv 1 e + pv 1 e := by
  rw [← pv_add, show (1 + 1 : Nat) = 1 * 2 ^ 1 from rfl, pv_shift]; congr 1
theorem bd_add {k : FloatKind} {e : Nat} {x y : Nat} (hx : Bd k e x) (hy : Bd k e y) (he : e + 1 ≤ bias k) : (floatBits .add k x y).isSome = true ∧ Bd k (e + 1) (fA .add k x y) ∧ Rnd k.format (sv k.format x + sv k.format y) (fA .add k x y) := by
  obtain ⟨w, h1, h2, _⟩ := add_spec (k_hf k) (hx.fnt (by omega)) (hy.fnt (by omega))
  obtain ⟨a1, a2⟩ := fA_of (op := .add) (k := k) h1
  rw [a2]
  refine ⟨a1, bd_rnd h2 ?_, h2⟩
  have := av_add (sv k.format x) (sv k.format y)
  rw [p2_dbl]
  unfold Bd at hx hy
  grind
theorem bd_sub {k : FloatKind} {e : Nat} {x y : Nat} (hx : Bd k e x) (hy : Bd k e y) (he : e + 1 ≤ bias k) : (floatBits .sub k x y).isSome = true ∧ Bd k (e + 1) (fA .sub k x y) ∧ Rnd k.format (sv k.format x - sv k.format y) (fA .sub k x y) := by
  obtain ⟨w, h1, h2, _⟩ := sub_spec (k_hf k) (hx.fnt (by omega)) (hy.fnt (by omega))
  obtain ⟨a1, a2⟩ := fA_of (op := .sub) (k := k) h1
  rw [a2]
  refine ⟨a1, bd_rnd h2 ?_, h2⟩
  have := av_add (sv k.format x) (-sv k.format y)
  rw [av_neg] at this
  rw [p2_dbl, Rat.sub_eq_add_neg]
  unfold Bd at hx hy
  grind
theorem av_mul (a b : Rat) : av (a * b) = av a * av b := by
  have key : ∀ a b : Rat, 0 ≤ a → av (a * b) = a * av b := by
    intro a b ha
    by_cases hb : b < 0
    · have h1 : 0 ≤ a * -b := Rat.mul_nonneg ha (by grind)
      have e : a * b = -(a * -b) := by rw [Rat.mul_neg, Rat.neg_neg]
      rw [e, av_neg, av_of_nonneg h1]
      unfold av; rw [if_pos hb]
    · have h1 : 0 ≤ a * b := Rat.mul_nonneg ha (by grind)
      rw [av_of_nonneg h1, av_of_nonneg (by grind)]
  by_cases ha : a < 0
  · have e : a * b = -(-a * b) := by rw [Rat.neg_mul, Rat.neg_neg]
    rw [e, av_neg, key (-a) b (by grind)]
    congr 1
    unfold av; rw [if_pos ha]
  · rw [key a b (by grind), av_of_nonneg (by grind : 0 ≤ a)]
theorem bd_mul {k : FloatKind} {a b : Nat} {x y : Nat} (hx : Bd k a x) (hy : Bd k b y) (ha : a ≤ bias k) (hb : b ≤ bias k) : (floatBits .mul k x y).isSome = true ∧ Bd k (a + b) (fA .mul k x y) ∧ Rnd k.format (sv k.format x * sv k.format y) (fA .mul k x y) := by
  obtain ⟨w, h1, h2⟩ := mul_rnd (k_hf k) (hx.fnt ha) (hy.fnt hb)
  obtain ⟨a1, a2⟩ := fA_of (op := .mul) (k := k) h1
  rw [a2]
  refine ⟨a1, bd_rnd h2 ?_, h2⟩
  rw [av_mul]
  have e : pv 1 ((a + b : Nat) : Int) = pv 1 a * pv 1 b := by rw [pv_mul]; rfl
  rw [e]
  exact Rat.le_trans (Rat.mul_le_mul_of_nonneg_right hx (av_nonneg _)) (Rat.mul_le_mul_of_nonneg_left hy (pv_nonneg _ _))
theorem av_div_le {a b c : Rat} (hb : 1 ≤ av b) (ha : av a ≤ c) : av (a / b) ≤ c := by
  have hb0 : b ≠ 0 := by
    rintro rfl
    have : av 0 = 0 := rfl
    grind
  have e : av (a / b) * av b = av a := by rw [← av_mul, Rat.div_mul_cancel hb0]
  have h0 := av_nonneg (a / b)
  have := Rat.mul_le_mul_of_nonneg_left hb h0
  grind
theorem bd_div {k : FloatKind} {e : Nat} {x y : Nat} (hx : Bd k e x) (hy : Fnt k.format y) (h1 : 1 ≤ av (sv k.format y)) (he : e ≤ bias k) : (floatBits .quo k x y).isSome = true ∧ Bd k e (fA .quo k x y) ∧ Rnd k.format (sv k.format x / sv k.format y) (fA .quo k x y) := by
  have hy0 : rg k.format y ≠ 0 := by
    intro h
    rw [av_sv, h, rv_zero] at h1
    exact absurd h1 (by decide)
  obtain ⟨w, h2, h3⟩ := div_rnd (k_hf k) (hx.fnt he) hy hy0
  obtain ⟨a1, a2⟩ := fA_of (op := .quo) (k := k) h2
  rw [a2]
  exact ⟨a1, bd_rnd h3 (av_div_le h1 hx), h3⟩
/-- Double to single precision: within its bounds the nearest one. -/
theorem conv_down {x e : Nat} (hx : Bd .f64 e x) (he : e ≤ 127) : ∃ r, floatToFloatBits .f64 x .f32 = some r ∧ Bd .f32 e r ∧ Rnd single (sv double x) r := by
  have hf := hx.fnt (by show e ≤ 1023; omega)
  obtain ⟨m, p, e1, e2⟩ := read_fin double x hf
  have hr : Rnd single (sv double x) (single.nearest (sg double x) m p) := by
    refine nearest_rnd single s_hf _ _ _ _ ?_ (fun h => ?_) (fun h => ?_)
    · rw [av_sv]; exact e2.symm
    · have := rv_nonneg double (rg double x)
      unfold sv at h
      cases hs : sg double x
      · rfl
      · rw [hs] at h; simp only [if_true] at h; grind
    · have := rv_nonneg double (rg double x)
      unfold sv at h
      cases hs : sg double x
      · rw [hs] at h; simp only [Bool.false_eq_true, if_false] at h; grind
      · rfl
  have hb : Bd .f32 e (single.nearest (sg double x) m p) := bd_rnd (k := .f32) hr (by exact hx)
  refine ⟨single.nearest (sg double x) m p, ?_, hb, hr⟩
  have hd : FloatKind.decode .f64 x = .number (sg double x) m p := e1
  have hen : FloatKind.encode .f32 (.number (sg double x) m p) = single.nearest (sg double x) m p := rfl
  unfold floatToFloatBits
  rw [if_neg (by decide), hd]
  simp only [hen]
  obtain ⟨m', p', k1, _⟩ := read_fin single _ (hb.fnt he)
  have hdd : FloatKind.decode .f32 (single.nearest (sg double x) m p) = .number (sg single (single.nearest (sg double x) m p)) m' p' := k1
  rw [hdd]
  simp [Datum.isInfinity]

end Go.Proofs.YtimhljcebeiofaaGreatDoor
