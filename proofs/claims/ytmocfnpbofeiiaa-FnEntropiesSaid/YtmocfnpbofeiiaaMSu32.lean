/- How far a rounded value lies from the exact one. Plain: no program. -/
import Derived.Test.YtmocfnpbofeiiaaMExl
namespace Go.Proofs.Ytmocfnpbofeiiaa
set_option linter.unusedSimpArgs false
set_option linter.unusedVariables false
open Ieee

/-- The step from a rung to the next one. -/
def gap (f : Format) (r : Nat) : Rat := pv 1 (f.leastPlace + (r / f.binade - 1 : Nat))
theorem gap_nonneg (f : Format) (r : Nat) : 0 ≤ gap f r := pv_nonneg _ _
theorem gap_mono (f : Format) {r s : Nat} (h : r ≤ s) : gap f r ≤ gap f s := by
  unfold gap
  refine pv_mono_place ?_
  have := Nat.div_le_div_right (c := f.binade) h
  omega
theorem near_err {f : Format} {v : Rat} {r : Nat} (h : Near f v r) (hv : 0 ≤ v) : 2 * (v - rv f r) ≤ gap f r ∧ 2 * (rv f r - v) ≤ gap f r := by
  constructor
  · have h1 := h.hi
    rw [rv_succ] at h1
    unfold gap
    grind
  · by_cases h0 : r = 0
    · subst h0
      rw [rv_zero]
      have := gap_nonneg f 0
      grind
    · have h1 := h.lo h0
      have h2 := rv_succ f (r - 1)
      rw [show r - 1 + 1 = r by omega] at h2
      have h3 := gap_mono f (show r - 1 ≤ r by omega)
      unfold gap at h3 ⊢
      grind
theorem gap_le (f : Format) (r : Nat) : gap f r * (f.binade : Rat) ≤ rv f r + pv 1 f.leastPlace * (f.binade : Rat) := by
  have hB := binade_pos f
  have hBR : (0 : Rat) ≤ (f.binade : Rat) := by exact_mod_cast Nat.zero_le _
  unfold gap rv
  by_cases h : r < f.binade
  · rw [if_pos h, Nat.div_eq_of_lt h]
    have := pv_nonneg r f.leastPlace
    have e : f.leastPlace + ((0 - 1 : Nat) : Int) = f.leastPlace := by omega
    rw [e]
    grind
  · rw [if_neg h]
    have h1 : pv 1 (f.leastPlace + (r / f.binade - 1 : Nat)) * (f.binade : Rat) = pv f.binade (f.leastPlace + (r / f.binade - 1 : Nat)) := by
      unfold pv; rw [show ((1 : Nat) : Rat) = 1 from rfl, Rat.one_mul, Rat.mul_comm]
    have h2 := pv_le (m := f.binade) (n := f.binade + r % f.binade) (f.leastPlace + (r / f.binade - 1 : Nat)) (by omega)
    have h3 : 0 ≤ pv 1 f.leastPlace * (f.binade : Rat) := Rat.mul_nonneg (pv_nonneg _ _) hBR
    rw [h1]
    grind
theorem Rnd.fin_rung {f : Format} {v : Rat} {w : Nat} (h : Rnd f v w) (hf : Fnt f w) : Near f (av v) (rg f w) ∧ (0 < v → sg f w = false) ∧ (v < 0 → sg f w = true) := by
  have hs := h.sgn
  obtain ⟨s, q, rfl, hn, h1, h2⟩ := h
  have e := rg_word f s (Nat.min_le_right q f.infRung)
  unfold Fnt at hf
  rw [e] at hf
  have : min q f.infRung = q := by omega
  rw [e, this]
  rw [this] at hs
  exact ⟨hn, hs⟩
theorem rnd_gap {f : Format} {v : Rat} {w : Nat} (h : Rnd f v w) (hf : Fnt f w) : 2 * av (sv f w - v) ≤ gap f (rg f w) := by
  obtain ⟨hn, h1, h2⟩ := h.fin_rung hf
  obtain ⟨e1, e2⟩ := near_err hn (av_nonneg v)
  by_cases h0 : 0 < v
  · rw [sv_sg (h1 h0)]
    rw [av_of_nonneg (by grind)] at e1 e2
    simp only [Bool.false_eq_true, if_false]
    unfold av; split <;> grind
  · by_cases h3 : v < 0
    · rw [sv_sg (h2 h3)]
      have : av v = -v := by unfold av; rw [if_pos h3]
      rw [this] at e1 e2
      simp only [if_true]
      unfold av; split <;> grind
    · have hv : v = 0 := by grind
      rw [sv_rg0 (rnd_zero h hv), hv]
      have := gap_nonneg f (rg f w)
      have e : av ((0 : Rat) - 0) = 0 := by decide +kernel
      rw [e]; grind
def ed : Rat := 1 / 4503599627370496
def es : Rat := 1 / 8388608
def td : Rat := pv 1 (-1074)
def ts : Rat := pv 1 (-149)
theorem td_pos : 0 ≤ td := pv_nonneg _ _
theorem ts_pos : 0 ≤ ts := pv_nonneg _ _
theorem rnd_err_of {f : Format} {e t v : Rat} {w : Nat} (h : Rnd f v w) (hf : Fnt f w) (he : e * (f.binade : Rat) = 1) (he1 : 0 ≤ e) (he2 : e ≤ 1) (ht : pv 1 f.leastPlace = t) : av (sv f w - v) ≤ av v * e + t := by
  have h1 := rnd_gap h hf
  have h2 := gap_le f (rg f w)
  have h3 : gap f (rg f w) ≤ av (sv f w) * e + t := by
    have h4 := Rat.mul_le_mul_of_nonneg_right h2 he1
    rw [Rat.add_mul, Rat.mul_assoc, Rat.mul_assoc (pv 1 f.leastPlace), Rat.mul_comm (f.binade : Rat) e, he, Rat.mul_one, Rat.mul_one, ht] at h4
    rw [av_sv]; exact h4
  have h5 : av (sv f w) ≤ av v + av (sv f w - v) := by
    have := av_add v (sv f w - v)
    rwa [show v + (sv f w - v) = sv f w by grind] at this
  have h6 := Rat.mul_le_mul_of_nonneg_right h5 he1
  rw [Rat.add_mul] at h6
  have h7 : av (sv f w - v) * e ≤ av (sv f w - v) := by
    have := Rat.mul_le_mul_of_nonneg_left he2 (av_nonneg (sv f w - v))
    rwa [Rat.mul_one] at this
  have := av_nonneg (sv f w - v)
  grind
theorem d_lp : double.leastPlace = -1074 := by decide
theorem s_lp : single.leastPlace = -149 := by decide
theorem s_bin : single.binade = 8388608 := by decide
/-- A double word's distance from what it is the rounding of. -/
theorem err_d {v : Rat} {w : Nat} (h : Rnd double v w) (hf : Fnt double w) : av (sv double w - v) ≤ av v * ed + td :=
  rnd_err_of h hf (by rw [d_bin]; decide +kernel) (by decide +kernel) (by decide +kernel) (by rw [d_lp]; rfl)
/-- A single word's distance from what it is the rounding of. -/
theorem err_s {v : Rat} {w : Nat} (h : Rnd single v w) (hf : Fnt single w) : av (sv single w - v) ≤ av v * es + ts :=
  rnd_err_of h hf (by rw [s_bin]; decide +kernel) (by decide +kernel) (by decide +kernel) (by rw [s_lp]; rfl)

end Go.Proofs.Ytmocfnpbofeiiaa

/- Words near exact values: what is reckoned of them stays near. Plain: no program. -/
namespace Go.Proofs.Ytmocfnpbofeiiaa
set_option linter.unusedSimpArgs false
set_option linter.unusedVariables false
open Ieee

theorem le_av (v : Rat) : v ≤ av v := by unfold av; split <;> grind
theorem neg_le_av (v : Rat) : -v ≤ av v := by unfold av; split <;> grind
theorem av_mul_le' {a b A B : Rat} (ha : av a ≤ A) (hb : av b ≤ B) : av (a * b) ≤ A * B := by
  rw [av_mul]
  exact Rat.le_trans (Rat.mul_le_mul_of_nonneg_right ha (av_nonneg _)) (Rat.mul_le_mul_of_nonneg_left hb (Rat.le_trans (av_nonneg _) ha))
/-- A bound that no word behind it passes. -/
def huge : FloatKind → Rat
  | .f32 => pv 1 ((120 : Nat) : Int)
  | .f64 => pv 1 ((1000 : Nat) : Int)
def ulp : FloatKind → Rat
  | .f32 => es
  | .f64 => ed
def tin : FloatKind → Rat
  | .f32 => ts
  | .f64 => td
/-- A finite word whose value is within e of v. -/
def Ap (k : FloatKind) (x : Nat) (v e : Rat) : Prop := Fnt k.format x ∧ av (sv k.format x - v) ≤ e
theorem Ap.ge0 {k : FloatKind} {x : Nat} {v e : Rat} (h : Ap k x v e) : 0 ≤ e := Rat.le_trans (av_nonneg _) h.2
theorem Ap.mono {k : FloatKind} {x : Nat} {v e f : Rat} (h : Ap k x v e) (hf : e ≤ f) : Ap k x v f := ⟨h.1, Rat.le_trans h.2 hf⟩
theorem Ap.move {k : FloatKind} {x : Nat} {v u e d f : Rat} (h : Ap k x v e) (hd : av (v - u) ≤ d) (hf : e + d ≤ f) : Ap k x u f := by
  refine ⟨h.1, ?_⟩
  have := av_add (sv k.format x - v) (v - u)
  rw [show sv k.format x - v + (v - u) = sv k.format x - u by grind] at this
  have := h.2
  grind
theorem Ap.val {k : FloatKind} {x : Nat} {v e A : Rat} (h : Ap k x v e) (hv : av v ≤ A) : av (sv k.format x) ≤ A + e := by
  have := av_add (sv k.format x - v) v
  rw [show sv k.format x - v + v = sv k.format x by grind] at this
  have := h.2
  grind
theorem Ap.self {k : FloatKind} {x : Nat} (h : Fnt k.format x) : Ap k x (sv k.format x) 0 := ⟨h, by rw [show sv k.format x - sv k.format x = 0 by grind]; decide +kernel⟩
theorem Ap.ex {k : FloatKind} {x : Nat} {v : Rat} (h : Fnt k.format x) (hv : sv k.format x = v) : Ap k x v 0 := by rw [← hv]; exact Ap.self h
theorem huge_bd {k : FloatKind} {w : Nat} {v : Rat} (h : Rnd k.format v w) (hv : av v ≤ huge k) : Fnt k.format w := by
  cases k
  · exact (bd_rnd (k := .f32) (e := 120) h hv).fnt (by decide)
  · exact (bd_rnd (k := .f64) (e := 1000) h hv).fnt (by decide)
theorem ap_rnd {k : FloatKind} {w : Nat} {t v e A : Rat} (h : Rnd k.format t w) (ht : av (t - v) ≤ e) (hv : av v ≤ A) (hA : A + e ≤ huge k) : Ap k w v (e + (A + e) * ulp k + tin k) := by
  have h1 : av t ≤ A + e := by
    have := av_add (t - v) v
    rw [show t - v + v = t by grind] at this
    grind
  have hf : Fnt k.format w := huge_bd h (Rat.le_trans h1 hA)
  refine ⟨hf, ?_⟩
  have hr : av (sv k.format w - t) ≤ av t * ulp k + tin k := by
    cases k
    · exact err_s h hf
    · exact err_d h hf
  have hu : 0 ≤ ulp k := by cases k <;> decide +kernel
  have h2 := Rat.mul_le_mul_of_nonneg_right h1 hu
  have h3 := av_add (sv k.format w - t) (t - v)
  rw [show sv k.format w - t + (t - v) = sv k.format w - v by grind] at h3
  grind
theorem ap_add {k : FloatKind} {x y : Nat} {v u e d A E : Rat} (hx : Ap k x v e) (hy : Ap k y u d) (hA : av (v + u) ≤ A) (hh : A + (e + d) ≤ huge k) (hE : e + d + (A + (e + d)) * ulp k + tin k ≤ E) :
    (floatBits .add k x y).isSome = true ∧ Ap k (fA .add k x y) (v + u) E := by
  obtain ⟨w, h1, h2, _⟩ := add_spec (k_hf k) hx.1 hy.1
  obtain ⟨a1, a2⟩ := fA_of (op := .add) (k := k) h1
  rw [a2]
  refine ⟨a1, (ap_rnd h2 ?_ hA hh).mono hE⟩
  have := av_add (sv k.format x - v) (sv k.format y - u)
  rw [show sv k.format x - v + (sv k.format y - u) = sv k.format x + sv k.format y - (v + u) by grind] at this
  have := hx.2
  have := hy.2
  grind
theorem ap_sub {k : FloatKind} {x y : Nat} {v u e d A E : Rat} (hx : Ap k x v e) (hy : Ap k y u d) (hA : av (v - u) ≤ A) (hh : A + (e + d) ≤ huge k) (hE : e + d + (A + (e + d)) * ulp k + tin k ≤ E) :
    (floatBits .sub k x y).isSome = true ∧ Ap k (fA .sub k x y) (v - u) E := by
  obtain ⟨w, h1, h2, _⟩ := sub_spec (k_hf k) hx.1 hy.1
  obtain ⟨a1, a2⟩ := fA_of (op := .sub) (k := k) h1
  rw [a2]
  refine ⟨a1, (ap_rnd h2 ?_ hA hh).mono hE⟩
  have := av_add (sv k.format x - v) (-(sv k.format y - u))
  rw [show sv k.format x - v + -(sv k.format y - u) = sv k.format x - sv k.format y - (v - u) by grind, av_neg] at this
  have := hx.2
  have := hy.2
  grind
theorem ap_mul {k : FloatKind} {x y : Nat} {v u e d A B E : Rat} (hx : Ap k x v e) (hy : Ap k y u d) (hA : av v ≤ A) (hB : av u ≤ B) (hh : A * B + (e * (B + d) + A * d) ≤ huge k) (hE : e * (B + d) + A * d + (A * B + (e * (B + d) + A * d)) * ulp k + tin k ≤ E) :
    (floatBits .mul k x y).isSome = true ∧ Ap k (fA .mul k x y) (v * u) E := by
  obtain ⟨w, h1, h2⟩ := mul_rnd (k_hf k) hx.1 hy.1
  obtain ⟨a1, a2⟩ := fA_of (op := .mul) (k := k) h1
  rw [a2]
  refine ⟨a1, (ap_rnd h2 ?_ (av_mul_le' hA hB) hh).mono hE⟩
  have m1 := av_mul_le' hx.2 (hy.val hB)
  have m2 := av_mul_le' hA hy.2
  have := av_add ((sv k.format x - v) * sv k.format y) (v * (sv k.format y - u))
  rw [show (sv k.format x - v) * sv k.format y + v * (sv k.format y - u) = sv k.format x * sv k.format y - v * u by grind] at this
  grind
/-- A quotient: Q bounds the exact one, c the divisor from below. -/
theorem ap_div {k : FloatKind} {x y : Nat} {v u e d c Q E : Rat} (hx : Ap k x v e) (hy : Ap k y u d) (hc : 0 < c) (hu : c + d ≤ av u) (hQ : av (v / u) ≤ Q) (hh : Q + (e + Q * d) / c ≤ huge k) (hE : (e + Q * d) / c + (Q + (e + Q * d) / c) * ulp k + tin k ≤ E) :
    (floatBits .quo k x y).isSome = true ∧ Ap k (fA .quo k x y) (v / u) E := by
  have d0 := hy.ge0
  have hyc : c ≤ av (sv k.format y) := by
    have := av_add (sv k.format y) (-(sv k.format y - u))
    rw [show sv k.format y + -(sv k.format y - u) = u by grind, av_neg] at this
    have := hy.2
    grind
  have hy0 : rg k.format y ≠ 0 := by
    intro h
    rw [av_sv, h, rv_zero] at hyc
    grind
  have hu0 : u ≠ 0 := by
    rintro rfl
    have : av 0 = 0 := rfl
    grind
  have hs0 : sv k.format y ≠ 0 := by
    intro h
    rw [h] at hyc
    have : av 0 = 0 := rfl
    grind
  obtain ⟨w, h1, h2⟩ := div_rnd (k_hf k) hx.1 hy.1 hy0
  obtain ⟨a1, a2⟩ := fA_of (op := .quo) (k := k) h1
  rw [a2]
  refine ⟨a1, (ap_rnd h2 ?_ hQ hh).mono hE⟩
  have m1 := av_mul_le' hQ hy.2
  have m2 := av_add (sv k.format x - v) (-(v / u * (sv k.format y - u)))
  rw [av_neg] at m2
  have e1 : (sv k.format x / sv k.format y - v / u) * sv k.format y = sv k.format x - v + -(v / u * (sv k.format y - u)) := by grind
  have m3 : av (sv k.format x / sv k.format y - v / u) * av (sv k.format y) ≤ e + Q * d := by
    rw [← av_mul, e1]
    have := hx.2
    grind
  have m4 := Rat.mul_le_mul_of_nonneg_left hyc (av_nonneg (sv k.format x / sv k.format y - v / u))
  generalize av (sv k.format x / sv k.format y - v / u) = q at *
  have e2 : (e + Q * d) / c * c = e + Q * d := Rat.div_mul_cancel (by grind)
  by_cases h : q ≤ (e + Q * d) / c
  · exact h
  · have := Rat.mul_lt_mul_of_pos_right (show (e + Q * d) / c < q by grind) hc
    grind
theorem k_huge32 : huge .f32 = pv 1 ((120 : Nat) : Int) := rfl
/-- Narrowing. -/
theorem ap_down {x : Nat} {v e A E : Rat} (hx : Ap .f64 x v e) (hA : av v ≤ A) (hh : A + e ≤ huge .f32) (hE : e + (A + e) * es + ts ≤ E) :
    floatToFloatBits .f64 x .f32 = some ((floatToFloatBits .f64 x .f32).getD 0) ∧ Ap .f32 ((floatToFloatBits .f64 x .f32).getD 0) v E := by
  have hb : Bd .f64 120 x := Rat.le_trans (hx.val hA) hh
  obtain ⟨r, r1, r2, r3⟩ := conv_down hb (by decide)
  rw [r1]
  refine ⟨rfl, ?_⟩
  exact (ap_rnd (k := .f32) r3 hx.2 hA hh).mono hE
/-- Widening is exact. -/
theorem ap_up {x : Nat} {v e : Rat} (hx : Ap .f32 x v e) : floatToFloatBits .f32 x .f64 = some (up64 x) ∧ Ap .f64 (up64 x) v e ∧ sv double (up64 x) = sv single x := by
  obtain ⟨r, h1, h2, h3, h4⟩ := conv_up hx.1
  have hu : up64 x = r := by unfold up64; rw [h1]; rfl
  have hs : sv double r = sv single x := by unfold sv; rw [h3, h4]
  rw [hu]
  refine ⟨h1, ⟨h2, ?_⟩, hs⟩
  have := hx.2
  rw [show FloatKind.f64.format = double from rfl, hs]
  exact this

end Go.Proofs.Ytmocfnpbofeiiaa

/- A logarithm in exact fractions. Plain: no program. -/
namespace Go.Proofs.Ytmocfnpbofeiiaa
set_option linter.unusedSimpArgs false
set_option linter.unusedVariables false
open Ieee

/-- The remainder of a power behind its tangent. -/
def pwD (t u : Rat) (m : Nat) : Rat := u ^ (m + 1) - t ^ (m + 1) - ((m + 1 : Nat) : Rat) * t ^ m * (u - t)
theorem pwD_succ (t u : Rat) (m : Nat) : pwD t u (m + 1) = u * pwD t u m + ((m + 1 : Nat) : Rat) * t ^ m * ((u - t) * (u - t)) := by
  unfold pwD
  rw [Rat.pow_succ u (m + 1), Rat.pow_succ t (m + 1), Rat.pow_succ t m, Rat.natCast_add (m + 1) 1]
  generalize t ^ m = a
  generalize u ^ (m + 1) = b
  generalize ((m + 1 : Nat) : Rat) = c
  simp only [show ((1 : Nat) : Rat) = 1 from rfl]
  grind
theorem av_mul_le {a b A B : Rat} (ha : av a ≤ A) (hb : av b ≤ B) : av (a * b) ≤ A * B := by
  rw [av_mul]
  exact Rat.le_trans (Rat.mul_le_mul_of_nonneg_right ha (av_nonneg _)) (Rat.mul_le_mul_of_nonneg_left hb (Rat.le_trans (av_nonneg _) ha))
theorem av_add_le {a b A B : Rat} (ha : av a ≤ A) (hb : av b ≤ B) : av (a + b) ≤ A + B := by
  have := av_add a b
  grind
theorem av_sub_le {a b A B : Rat} (ha : av a ≤ A) (hb : av b ≤ B) : av (a - b) ≤ A + B := by
  rw [Rat.sub_eq_add_neg]
  exact av_add_le ha (by rw [av_neg]; exact hb)
theorem sq_nonneg (d : Rat) : 0 ≤ d * d := by
  by_cases h : 0 ≤ d
  · exact Rat.mul_nonneg h h
  · have := Rat.mul_nonneg (show 0 ≤ -d by grind) (show 0 ≤ -d by grind)
    grind
theorem av_sq (d : Rat) : av (d * d) = d * d := av_of_nonneg (sq_nonneg d)
/-- Powers of small numbers fall faster than their exponents grow. -/
theorem pw_small {t : Rat} (h : av t ≤ 1 / 5) : ∀ m : Nat, ((m + 2 : Nat) : Rat) * av (t ^ (m + 1)) ≤ 2 / 5 := by
  intro m
  induction m with
  | zero =>
    rw [show t ^ (0 + 1) = t by rw [Rat.pow_succ]; grind]
    have : ((0 + 2 : Nat) : Rat) = 2 := rfl
    grind
  | succ m ih =>
    rw [Rat.pow_succ, av_mul]
    have h0 := av_nonneg (t ^ (m + 1))
    have hm : (0 : Rat) ≤ (m : Rat) := by exact_mod_cast Nat.zero_le m
    rw [show ((m + 1 + 2 : Nat) : Rat) = (m : Rat) + 3 by rw [show m + 1 + 2 = m + 3 by omega, Rat.natCast_add]; rfl]
    rw [show ((m + 2 : Nat) : Rat) = (m : Rat) + 2 by rw [Rat.natCast_add]; rfl] at ih
    generalize av (t ^ (m + 1)) = a at *
    have h1 := Rat.mul_le_mul_of_nonneg_left h h0
    have h2 : 0 ≤ (m : Rat) * a := Rat.mul_nonneg hm h0
    have h3 := Rat.mul_le_mul_of_nonneg_left h1 (show (0 : Rat) ≤ (m : Rat) + 3 by grind)
    generalize (m : Rat) = k at *
    generalize av t = b at *
    grind
theorem pwD_le {t u : Rat} (ht : av t ≤ 1 / 5) (hu : av u ≤ 1 / 5) : ∀ m : Nat, av (pwD t u m) ≤ (u - t) * (u - t) := by
  intro m
  have hd := sq_nonneg (u - t)
  match m with
  | 0 =>
    have : pwD t u 0 = 0 := by unfold pwD; rw [Rat.pow_succ, Rat.pow_succ, Rat.pow_zero, Rat.pow_zero]; have : ((0 + 1 : Nat) : Rat) = 1 := rfl; grind
    rw [this]; exact hd
  | 1 =>
    have : pwD t u 1 = (u - t) * (u - t) := by
      rw [pwD_succ]
      have : pwD t u 0 = 0 := by unfold pwD; rw [Rat.pow_succ, Rat.pow_succ, Rat.pow_zero, Rat.pow_zero]; have : ((0 + 1 : Nat) : Rat) = 1 := rfl; grind
      rw [this, Rat.pow_zero]
      have : ((0 + 1 : Nat) : Rat) = 1 := rfl
      grind
    rw [this, av_sq]; exact Rat.le_refl
  | m + 2 =>
    have ih := pwD_le ht hu (m + 1)
    rw [pwD_succ]
    have h1 := av_mul_le hu ih
    have h2 := pw_small ht m
    have h3 : av (((m + 1 + 1 : Nat) : Rat) * t ^ (m + 1)) ≤ 2 / 5 := by
      rw [av_mul, av_of_nonneg (by exact_mod_cast Nat.zero_le _)]
      exact h2
    have h4 := av_mul_le h3 (show av ((u - t) * (u - t)) ≤ (u - t) * (u - t) by rw [av_sq]; exact Rat.le_refl)
    have h5 := av_add_le h1 h4
    generalize (u - t) * (u - t) = d at *
    grind
/-- The first n terms of the row of the inverse hyperbolic tangent, and of its slope. -/
def atT (s : Rat) : Nat → Rat
  | 0 => 0
  | n + 1 => atT s n + s ^ (2 * n + 1) / ((2 * n + 1 : Nat) : Rat)
def atD (s : Rat) : Nat → Rat
  | 0 => 0
  | n + 1 => atD s n + s ^ (2 * n)
theorem atD_eq (s : Rat) : ∀ n, atD s n * (1 - s * s) = 1 - s ^ (2 * n) := by
  intro n
  induction n with
  | zero => simp [atD, Rat.pow_zero]; grind
  | succ n ih =>
    have e : s ^ (2 * (n + 1)) = s ^ (2 * n) * (s * s) := by rw [show 2 * (n + 1) = 2 * n + 1 + 1 by omega, Rat.pow_succ, Rat.pow_succ, Rat.mul_assoc]
    rw [e]
    unfold atD
    generalize s ^ (2 * n) = p at *
    generalize s * s = q at *
    generalize atD s n = a at *
    grind
theorem atT_step {t u : Rat} (ht : av t ≤ 1 / 5) (hu : av u ≤ 1 / 5) : ∀ n : Nat, av (atT u n - atT t n - atD t n * (u - t)) ≤ (n : Rat) * ((u - t) * (u - t)) := by
  intro n
  induction n with
  | zero => simp only [atT, atD]; rw [show ((0 : Rat) - 0 - 0 * (u - t)) = 0 by grind, show ((0 : Nat) : Rat) * ((u - t) * (u - t)) = 0 by rw [show ((0 : Nat) : Rat) = 0 from rfl]; grind]; decide +kernel
  | succ n ih =>
    have h1 := pwD_le ht hu (2 * n)
    have hc : ((2 * n + 1 : Nat) : Rat) ≠ 0 := by
      intro h
      have : (0 : Rat) < ((2 * n + 1 : Nat) : Rat) := by exact_mod_cast Nat.succ_pos _
      rw [h] at this; exact absurd this (by decide)
    have hc1 : (1 : Rat) ≤ ((2 * n + 1 : Nat) : Rat) := by exact_mod_cast Nat.succ_le_succ (Nat.zero_le (2 * n))
    have e : pwD t u (2 * n) / ((2 * n + 1 : Nat) : Rat) = u ^ (2 * n + 1) / ((2 * n + 1 : Nat) : Rat) - t ^ (2 * n + 1) / ((2 * n + 1 : Nat) : Rat) - t ^ (2 * n) * (u - t) := by
      unfold pwD
      generalize ((2 * n + 1 : Nat) : Rat) = c at *
      grind
    have h2 : av (pwD t u (2 * n) / ((2 * n + 1 : Nat) : Rat)) ≤ (u - t) * (u - t) := av_div_le (by rw [av_of_nonneg (by grind)]; exact hc1) h1
    rw [e] at h2
    have h3 := av_add_le ih h2
    rw [Rat.natCast_add n 1, show ((1 : Nat) : Rat) = 1 from rfl]
    have e2 : atT u (n + 1) - atT t (n + 1) - atD t (n + 1) * (u - t) = atT u n - atT t n - atD t n * (u - t) + (u ^ (2 * n + 1) / ((2 * n + 1 : Nat) : Rat) - t ^ (2 * n + 1) / ((2 * n + 1 : Nat) : Rat) - t ^ (2 * n) * (u - t)) := by
      simp only [atT, atD]
      grind
    rw [e2]
    grind
/-- The logarithm between 3/4 and 3/2. -/
def lgS (m : Rat) : Rat := (m - 1) / (m + 1)
def lgG (m : Rat) : Rat := 2 * atT (lgS m) 13
def lg2 : Rat := lgG (3 / 2) - lgG (3 / 4)
def eta : Rat := 1 / 100000000000000000
theorem lgS_eq {m : Rat} (h : 0 < m + 1) : lgS m * (m + 1) = m - 1 := by
  unfold lgS
  exact Rat.div_mul_cancel (by grind)
theorem lgS_le {m : Rat} (h1 : 3 / 4 ≤ m) (h2 : m ≤ 3 / 2) : av (lgS m) ≤ 1 / 5 := by
  have e := lgS_eq (m := m) (by grind)
  generalize lgS m = s at *
  refine av_le ?_ ?_
  · by_cases h : s ≤ 1 / 5
    · exact h
    · have := Rat.mul_lt_mul_of_pos_right (show 1 / 5 < s by grind) (show 0 < m + 1 by grind)
      grind
  · by_cases h : -(1 / 5) ≤ s
    · exact h
    · have := Rat.mul_lt_mul_of_pos_right (show s < -(1 / 5) by grind) (show 0 < m + 1 by grind)
      grind
theorem pw_le {s c : Rat} (h : av s ≤ c) (hc : 0 ≤ c) : ∀ n : Nat, av (s ^ n) ≤ c ^ n := by
  intro n
  induction n with
  | zero => rw [Rat.pow_zero, Rat.pow_zero]; decide +kernel
  | succ n ih => rw [Rat.pow_succ, Rat.pow_succ]; exact av_mul_le ih h
theorem inv_le {m c x : Rat} (h : m * x = 1) (hc : 0 < c) (h1 : 1 ≤ m * c) (hm : 0 < m) : 0 ≤ x ∧ x ≤ c := by
  have hx : 0 ≤ x := by
    by_cases h0 : 0 ≤ x
    · exact h0
    · have := Rat.mul_lt_mul_of_pos_left (show x < 0 by grind) hm
      grind
  refine ⟨hx, ?_⟩
  by_cases h2 : x ≤ c
  · exact h2
  · have := Rat.mul_lt_mul_of_pos_left (show c < x by grind) hm
    grind
/-- The slope of the logarithm. -/
theorem lgG_step {m n : Rat} (h1 : 3 / 4 ≤ m) (h2 : m ≤ 3 / 2) (h3 : 3 / 4 ≤ n) (h4 : n ≤ 3 / 2) : av (lgG n - lgG m - (n - m) / m) ≤ 27 * ((n - m) * (n - m)) + eta * av (n - m) := by
  have hs := lgS_le h1 h2
  have ht := lgS_le h3 h4
  have es := lgS_eq (m := m) (by grind)
  have et := lgS_eq (m := n) (by grind)
  have A := atT_step hs ht 13
  have B := atD_eq (lgS m) 13
  have P := pw_le hs (by decide +kernel) (2 * 13)
  have P2 : ((1 : Rat) / 5) ^ (2 * 13) ≤ eta / 2 := by decide +kernel
  unfold lgG
  generalize atT (lgS m) 13 = gm at *
  generalize atT (lgS n) 13 = gn at *
  generalize atD (lgS m) 13 = D at *
  generalize lgS m ^ (2 * 13) = p at *
  generalize lgS m = s at *
  generalize lgS n = t at *
  obtain ⟨x, hx⟩ : ∃ x, m * x = 1 := ⟨1 / m, by grind⟩
  obtain ⟨y, hy⟩ : ∃ y, (n + 1) * y = 1 := ⟨1 / (n + 1), by grind⟩
  obtain ⟨z, hz⟩ : ∃ z, (m + 1) * z = 1 := ⟨1 / (m + 1), by grind⟩
  obtain ⟨x0, x1⟩ := inv_le hx (c := 4 / 3) (by decide +kernel) (by grind) (by grind)
  obtain ⟨y0, y1⟩ := inv_le hy (c := 4 / 7) (by decide +kernel) (by grind) (by grind)
  obtain ⟨z0, z1⟩ := inv_le hz (c := 4 / 7) (by decide +kernel) (by grind) (by grind)
  obtain ⟨d, hd⟩ : ∃ d, d = n - m := ⟨_, rfl⟩
  rw [← hd]
  have e1 : d / m = d * x := by grind
  rw [e1]
  have s1 : s = (m - 1) * z := by grind
  have t1 : t = (n - 1) * y := by grind
  have dst : t - s = 2 * d * y * z := by
    have : n = m + d := by grind
    subst this
    grind
  have e2 : D * 4 = (1 - p) * ((m + 1) * (m + 1)) * x := by
    have : (1 - s * s) * ((m + 1) * (m + 1)) = 4 * m := by grind
    grind
  have e3 : 2 * (D * (t - s)) = (1 - p) * (m + 1) * x * d * y := by
    rw [dst]; grind
  have e4 : 2 * (D * (t - s)) - d * x = -(d * d * (x * y)) - p * (d * ((m + 1) * (x * y))) := by
    rw [e3]
    have : n = m + d := by grind
    subst this
    grind
  have xy : av (x * y) ≤ 16 / 21 := by
    have := av_mul_le (a := x) (b := y) (A := 4 / 3) (B := 4 / 7) (by rw [av_of_nonneg x0]; exact x1) (by rw [av_of_nonneg y0]; exact y1)
    grind
  have mxy : av ((m + 1) * (x * y)) ≤ 2 := by
    have := av_mul_le (a := m + 1) (b := x * y) (A := 5 / 2) (by rw [av_of_nonneg (by grind)]; grind) xy
    grind
  have b1 : av (d * d * (x * y)) ≤ d * d * (16 / 21) := av_mul_le (by rw [av_sq]; exact Rat.le_refl) xy
  have b2 : av (p * (d * ((m + 1) * (x * y)))) ≤ eta / 2 * (av d * 2) := av_mul_le (by grind) (av_mul_le Rat.le_refl mxy)
  have b3 : (t - s) * (t - s) ≤ d * d * (1024 / 2401) := by
    rw [dst]
    have yz : av (y * z) ≤ 16 / 49 := by
      have := av_mul_le (a := y) (b := z) (A := 4 / 7) (B := 4 / 7) (by rw [av_of_nonneg y0]; exact y1) (by rw [av_of_nonneg z0]; exact z1)
      grind
    have yz2 : av ((y * z) * (y * z)) ≤ 16 / 49 * (16 / 49) := av_mul_le yz yz
    rw [av_sq] at yz2
    have := Rat.mul_le_mul_of_nonneg_left yz2 (sq_nonneg d)
    grind
  have C := av_sub_le (av_add_le (show av (2 * (gn - gm - D * (t - s))) ≤ 2 * (((13 : Nat) : Rat) * ((t - s) * (t - s))) by
      have := av_mul_le (a := 2) (A := 2) (by decide +kernel) A
      exact this) (show av (-(d * d * (x * y))) ≤ d * d * (16 / 21) by rw [av_neg]; exact b1)) b2
  have e5 : 2 * gn - 2 * gm - d * x = 2 * (gn - gm - D * (t - s)) + -(d * d * (x * y)) - p * (d * ((m + 1) * (x * y))) := by grind
  rw [e5]
  have h13 : ((13 : Nat) : Rat) = 13 := rfl
  rw [h13] at C
  have hdd := sq_nonneg d
  refine Rat.le_trans C ?_
  generalize av d = ad at *
  generalize eta = e at *
  grind
/-- A sum of small steps. -/
theorem tele {f : Nat → Rat} {e : Rat} {M : Nat} (h : ∀ i, i < M → av (f (i + 1) - f i) ≤ e) : ∀ i, i ≤ M → av (f i - f 0) ≤ (i : Rat) * e := by
  intro i
  induction i with
  | zero => intro _; rw [show f 0 - f 0 = 0 by grind, show ((0 : Nat) : Rat) * e = 0 by rw [show ((0 : Nat) : Rat) = 0 from rfl]; grind]; decide +kernel
  | succ i ih =>
    intro hi
    have h1 := ih (by omega)
    have h2 := h i (by omega)
    have h3 := av_add_le h1 h2
    rw [show f i - f 0 + (f (i + 1) - f i) = f (i + 1) - f 0 by grind] at h3
    rw [Rat.natCast_add, show ((1 : Nat) : Rat) = 1 from rfl]
    grind
def bigM : Nat := 100000000000000000000000
/-- The points between a and b. -/
def ptA (a b : Rat) (i : Nat) : Rat := a + (i : Rat) * ((b - a) / (bigM : Rat))
theorem ptA_zero (a b : Rat) : ptA a b 0 = a := by unfold ptA; rw [show ((0 : Nat) : Rat) = 0 from rfl]; grind
theorem ptA_end (a b : Rat) : ptA a b bigM = b := by
  unfold ptA
  have : (bigM : Rat) ≠ 0 := by decide +kernel
  generalize (bigM : Rat) = M at *
  grind
theorem ptA_succ (a b : Rat) (i : Nat) : ptA a b (i + 1) = ptA a b i + (b - a) / (bigM : Rat) := by
  unfold ptA; rw [Rat.natCast_add, show ((1 : Nat) : Rat) = 1 from rfl]; grind
theorem ptA_in {a b lo hi : Rat} (a1 : lo ≤ a) (a2 : a ≤ hi) (b1 : lo ≤ b) (b2 : b ≤ hi) {i : Nat} (h : i ≤ bigM) : lo ≤ ptA a b i ∧ ptA a b i ≤ hi := by
  have hM : (0 : Rat) < (bigM : Rat) := by decide +kernel
  have hi0 : (0 : Rat) ≤ (i : Rat) := by exact_mod_cast Nat.zero_le i
  have hiM : (i : Rat) ≤ (bigM : Rat) := by exact_mod_cast h
  unfold ptA
  generalize (bigM : Rat) = M at *
  generalize (i : Rat) = k at *
  obtain ⟨q, hq⟩ : ∃ q, q * M = k := ⟨k / M, Rat.div_mul_cancel (by grind)⟩
  have e : k * ((b - a) / M) = q * (b - a) := by grind
  rw [e]
  have q0 : 0 ≤ q := by
    by_cases h0 : 0 ≤ q
    · exact h0
    · have := Rat.mul_lt_mul_of_pos_right (show q < 0 by grind) hM
      grind
  have q1 : q ≤ 1 := by
    by_cases h0 : q ≤ 1
    · exact h0
    · have := Rat.mul_lt_mul_of_pos_right (show 1 < q by grind) hM
      grind
  have m1 := Rat.mul_le_mul_of_nonneg_left b1 q0
  have m2 := Rat.mul_le_mul_of_nonneg_left b2 q0
  have m3 := Rat.mul_le_mul_of_nonneg_left a1 (show 0 ≤ 1 - q by grind)
  have m4 := Rat.mul_le_mul_of_nonneg_left a2 (show 0 ≤ 1 - q by grind)
  constructor <;> grind
theorem small_step {d : Rat} (hd : av d ≤ 3 / 4) : ∃ h, h = d / (bigM : Rat) ∧ av h ≤ 1 / (bigM : Rat) ∧ h * h ≤ 1 / ((bigM : Rat) * (bigM : Rat)) := by
  have hM : (0 : Rat) < (bigM : Rat) := by decide +kernel
  refine ⟨_, rfl, ?_, ?_⟩
  · have e : d / (bigM : Rat) = d * (1 / (bigM : Rat)) := by generalize (bigM : Rat) = M at *; grind
    rw [e]
    have := av_mul_le (b := 1 / (bigM : Rat)) (B := 1 / (bigM : Rat)) (show av d ≤ 1 by grind) (by decide +kernel)
    grind
  · have e : d / (bigM : Rat) * (d / (bigM : Rat)) = d * d * (1 / ((bigM : Rat) * (bigM : Rat))) := by generalize (bigM : Rat) = M at *; grind
    rw [e]
    have := av_mul_le (a := d * d) (A := 1) (b := 1 / ((bigM : Rat) * (bigM : Rat))) (B := 1 / ((bigM : Rat) * (bigM : Rat))) (by have := av_mul_le hd hd; grind) (by decide +kernel)
    rw [av_of_nonneg (Rat.mul_nonneg (sq_nonneg d) (by decide +kernel))] at this
    grind
/-- The logarithm grows from ca to cb as from a to b. -/
theorem lgG_seg {a b c : Rat} (a1 : 3 / 4 ≤ a) (a2 : a ≤ 3 / 2) (b1 : 3 / 4 ≤ b) (b2 : b ≤ 3 / 2) (c0 : 0 < c) (ca1 : 3 / 4 ≤ c * a) (ca2 : c * a ≤ 3 / 2) (cb1 : 3 / 4 ≤ c * b) (cb2 : c * b ≤ 3 / 2) :
    av ((lgG (c * b) - lgG (c * a)) - (lgG b - lgG a)) ≤ 4 * eta := by
  have c2 : c ≤ 2 := by
    by_cases h : c ≤ 2
    · exact h
    · have := Rat.mul_lt_mul_of_pos_right (show 2 < c by grind) (show 0 < a by grind)
      grind
  obtain ⟨h, hh, g1, g2⟩ := small_step (d := b - a) (av_le (by grind) (by grind))
  have key : ∀ i, i < bigM → av ((lgG (c * ptA a b (i + 1)) - lgG (ptA a b (i + 1))) - (lgG (c * ptA a b i) - lgG (ptA a b i))) ≤ 135 * (1 / ((bigM : Rat) * (bigM : Rat))) + 3 * eta * (1 / (bigM : Rat)) := by
    intro i hi
    obtain ⟨p1, p2⟩ := ptA_in a1 a2 b1 b2 (i := i) (by omega)
    obtain ⟨q1, q2⟩ := ptA_in a1 a2 b1 b2 (i := i + 1) (by omega)
    have hc : ∀ j, c * ptA a b j = ptA (c * a) (c * b) j := by intro j; unfold ptA; generalize (bigM : Rat) = M; grind
    obtain ⟨r1, r2⟩ := ptA_in ca1 ca2 cb1 cb2 (i := i) (by omega)
    obtain ⟨s1, s2⟩ := ptA_in ca1 ca2 cb1 cb2 (i := i + 1) (by omega)
    rw [← hc] at r1 r2 s1 s2
    have A := lgG_step p1 p2 q1 q2
    have B := lgG_step r1 r2 s1 s2
    have e := ptA_succ a b i
    rw [← hh] at e
    rw [e] at A B ⊢
    generalize ptA a b i = p at *
    rw [show p + h - p = h by grind] at A
    rw [show c * (p + h) - c * p = c * h by grind] at B
    have e1 : c * h / (c * p) = h / p := by grind
    rw [e1] at B
    have C := av_sub_le B A
    rw [show (lgG (c * (p + h)) - lgG (c * p) - h / p) - (lgG (p + h) - lgG p - h / p) = (lgG (c * (p + h)) - lgG (p + h)) - (lgG (c * p) - lgG p) by grind] at C
    refine Rat.le_trans C ?_
    have d1 : av (c * h) ≤ 2 * (1 / (bigM : Rat)) := av_mul_le (by rw [av_of_nonneg (by grind)]; exact c2) g1
    have d2 : c * h * (c * h) ≤ 4 * (1 / ((bigM : Rat) * (bigM : Rat))) := by
      have c4 : c * c ≤ 4 := by
        have := av_mul_le (a := c) (b := c) (A := 2) (B := 2) (by rw [av_of_nonneg (by grind)]; exact c2) (by rw [av_of_nonneg (by grind)]; exact c2)
        rw [av_sq] at this; grind
      have k1 := Rat.mul_le_mul_of_nonneg_right c4 (sq_nonneg h)
      grind
    have he : 0 ≤ eta := by decide +kernel
    have k1 := Rat.mul_le_mul_of_nonneg_left g1 he
    have k2 := Rat.mul_le_mul_of_nonneg_left d1 he
    generalize 1 / ((bigM : Rat) * (bigM : Rat)) = M2 at *
    generalize 1 / (bigM : Rat) = M1 at *
    grind
  have T := tele (f := fun i => lgG (c * ptA a b i) - lgG (ptA a b i)) key bigM (Nat.le_refl _)
  simp only [ptA_zero, ptA_end] at T
  rw [show lgG (c * b) - lgG b - (lgG (c * a) - lgG a) = (lgG (c * b) - lgG (c * a)) - (lgG b - lgG a) by grind] at T
  refine Rat.le_trans T ?_
  decide +kernel
/-- The logarithm lies below its tangents. -/
theorem lgG_tan {a b : Rat} (a1 : 3 / 4 ≤ a) (a2 : a ≤ 3 / 2) (b1 : 3 / 4 ≤ b) (b2 : b ≤ 3 / 2) : lgG b - lgG a ≤ (b - a) / a + 2 * eta := by
  obtain ⟨h, hh, g1, g2⟩ := small_step (d := b - a) (av_le (by grind) (by grind))
  have hM : (0 : Rat) < (bigM : Rat) := by decide +kernel
  have key : ∀ i, i ≤ bigM → lgG (ptA a b i) - lgG a ≤ (ptA a b i - a) / a + (i : Rat) * (27 * (1 / ((bigM : Rat) * (bigM : Rat))) + eta * (1 / (bigM : Rat))) := by
    intro i
    induction i with
    | zero =>
      intro _
      rw [ptA_zero, show ((0 : Nat) : Rat) = 0 from rfl]
      generalize 27 * (1 / ((bigM : Rat) * (bigM : Rat))) + eta * (1 / (bigM : Rat)) = z
      grind
    | succ i ih =>
      intro hi
      have ih := ih (by omega)
      obtain ⟨p1, p2⟩ := ptA_in a1 a2 b1 b2 (i := i) (by omega)
      obtain ⟨q1, q2⟩ := ptA_in a1 a2 b1 b2 (i := i + 1) (by omega)
      have A := lgG_step p1 p2 q1 q2
      have e := ptA_succ a b i
      rw [← hh] at e
      have hp : ptA a b i = a + (i : Rat) * h := by unfold ptA; rw [hh]
      have hi0 : (0 : Rat) ≤ (i : Rat) := by exact_mod_cast Nat.zero_le i
      have hpa : h / ptA a b i ≤ h / a := by
        obtain ⟨x, hx⟩ : ∃ x, ptA a b i * x = 1 := ⟨1 / ptA a b i, by grind⟩
        obtain ⟨y, hy⟩ : ∃ y, a * y = 1 := ⟨1 / a, by grind⟩
        have x0 := (inv_le hx (c := 4 / 3) (by decide +kernel) (by grind) (by grind)).1
        have y0 := (inv_le hy (c := 4 / 3) (by decide +kernel) (by grind) (by grind)).1
        rw [show h / ptA a b i = h * x by grind, show h / a = h * y by grind]
        rw [hp] at hx
        have k := Rat.mul_nonneg (Rat.mul_nonneg (Rat.mul_nonneg hi0 (sq_nonneg h)) x0) y0
        have : h * y - h * x = (i : Rat) * (h * h) * x * y := by
          generalize (i : Rat) = k at *
          grind
        grind
      rw [e] at A ⊢
      rw [Rat.natCast_add, show ((1 : Nat) : Rat) = 1 from rfl]
      generalize ptA a b i = p at *
      rw [show p + h - p = h by grind] at A
      have he : 0 ≤ eta := by decide +kernel
      have k1 := Rat.mul_le_mul_of_nonneg_left g1 he
      have A2 : lgG (p + h) - lgG p - h / p ≤ 27 * (h * h) + eta * av h := by
        have : ∀ v : Rat, v ≤ av v := by intro v; unfold av; split <;> grind
        exact Rat.le_trans (this _) A
      have e2 : (p + h - a) / a = (p - a) / a + h / a := by grind
      rw [e2]
      generalize 1 / ((bigM : Rat) * (bigM : Rat)) = M2 at *
      generalize 1 / (bigM : Rat) = M1 at *
      generalize (i : Rat) = k at *
      grind
  have T := key bigM (Nat.le_refl _)
  rw [ptA_end] at T
  have : (bigM : Rat) * (27 * (1 / ((bigM : Rat) * (bigM : Rat))) + eta * (1 / (bigM : Rat))) ≤ 2 * eta := by decide +kernel
  grind

end Go.Proofs.Ytmocfnpbofeiiaa

/- The logarithm of any positive fraction. Plain: no program. -/
namespace Go.Proofs.Ytmocfnpbofeiiaa
set_option linter.unusedSimpArgs false
set_option linter.unusedVariables false
open Ieee

theorem p2_lt {a b : Int} (h : a < b) : (2 : Rat) * 2 ^ a ≤ 2 ^ b := by
  rw [← p2_succ]
  have e : b = (a + 1) + ((b - a - 1).toNat : Int) := by omega
  have e2 : (2 : Rat) ^ b = 2 ^ (a + 1) * 2 ^ (((b - a - 1).toNat : Nat) : Int) := by rw [← p2_add, ← e]
  rw [e2]
  have h1 := p2_pos (a + 1)
  have h2 : (1 : Rat) ≤ 2 ^ (((b - a - 1).toNat : Nat) : Int) := by
    rw [p2_nat]
    exact_mod_cast Nat.one_le_two_pow
  have := Rat.mul_le_mul_of_nonneg_left h2 (Rat.le_of_lt h1)
  rwa [Rat.mul_one] at this
theorem rat_div (x : Rat) : x = (x.num : Rat) / ((x.den : Nat) : Rat) := by
  have h := Rat.num_divInt_den x
  rw [Rat.divInt_eq_div] at h
  exact h.symm
theorem lg_ex {x : Rat} (hx : 0 < x) : ∃ (e : Int) (m : Rat), 3 / 4 ≤ m ∧ m ≤ 3 / 2 ∧ x = m * 2 ^ e := by
  have up : ∀ k : Nat, ∀ y : Rat, 3 / 4 ≤ y → y ≤ 3 / 2 * 2 ^ (k : Int) → ∃ (e : Int) (m : Rat), 3 / 4 ≤ m ∧ m ≤ 3 / 2 ∧ y = m * 2 ^ e := by
    intro k
    induction k with
    | zero =>
      intro y h1 h2
      refine ⟨0, y, h1, ?_, ?_⟩
      · have : (2 : Rat) ^ ((0 : Nat) : Int) = 1 := by decide +kernel
        grind
      · have : (2 : Rat) ^ (0 : Int) = 1 := by decide +kernel
        grind
    | succ k ih =>
      intro y h1 h2
      by_cases h3 : y ≤ 3 / 2
      · exact ⟨0, y, h1, h3, by have : (2 : Rat) ^ (0 : Int) = 1 := by decide +kernel
                                grind⟩
      · rw [Int.natCast_add, show ((1 : Nat) : Int) = 1 from rfl, p2_succ] at h2
        obtain ⟨e, m, g1, g2, g3⟩ := ih (y / 2) (by grind) (by grind)
        refine ⟨e + 1, m, g1, g2, ?_⟩
        rw [p2_succ]; grind
  have down : ∀ k : Nat, ∀ y : Rat, 0 < y → 3 / 4 ≤ y * 2 ^ (k : Int) → ∃ (e : Int) (m : Rat), 3 / 4 ≤ m ∧ m ≤ 3 / 2 ∧ y = m * 2 ^ e := by
    intro k
    induction k with
    | zero =>
      intro y h0 h1
      have h1 : 3 / 4 ≤ y := by
        have : (2 : Rat) ^ ((0 : Nat) : Int) = 1 := by decide +kernel
        grind
      refine up y.num.toNat y h1 ?_
      have hd : (1 : Rat) ≤ (y.den : Rat) := by exact_mod_cast y.den_pos
      have hn : y = (y.num : Rat) / (y.den : Rat) := rat_div y
      have hy : y * (y.den : Rat) = (y.num : Rat) := by
        have h0 : (y.den : Rat) ≠ 0 := by grind
        have := Rat.div_mul_cancel (a := (y.num : Rat)) h0
        rw [← hn] at this; exact this
      have hnn : 0 ≤ y.num := Rat.num_nonneg.2 (Rat.le_of_lt h0)
      have hnum : (y.num : Rat) = ((y.num.toNat : Nat) : Rat) := by
        have : y.num = ((y.num.toNat : Nat) : Int) := by omega
        calc (y.num : Rat) = (((y.num.toNat : Nat) : Int) : Rat) := by rw [← this]
          _ = ((y.num.toNat : Nat) : Rat) := Rat.intCast_natCast _
      have hyn : y ≤ ((y.num.toNat : Nat) : Rat) := by
        rw [← hnum, ← hy]
        have := Rat.mul_le_mul_of_nonneg_left hd (Rat.le_of_lt h0)
        grind
      rw [p2_nat]
      have hp : ((y.num.toNat : Nat) : Rat) ≤ ((2 ^ y.num.toNat : Nat) : Rat) := by exact_mod_cast Nat.le_of_lt Nat.lt_two_pow_self
      generalize ((2 ^ y.num.toNat : Nat) : Rat) = P at *
      have : 0 ≤ P := by grind
      grind
    | succ k ih =>
      intro y h0 h1
      rw [Int.natCast_add, show ((1 : Nat) : Int) = 1 from rfl, p2_succ] at h1
      obtain ⟨e, m, g1, g2, g3⟩ := ih (y * 2) (by grind) (by grind)
      refine ⟨e - 1, m, g1, g2, ?_⟩
      have := p2_succ (e - 1)
      rw [show e - 1 + 1 = e by omega] at this
      grind
  refine down (x.den) x hx ?_
  have hd : (1 : Rat) ≤ (x.den : Rat) := by exact_mod_cast x.den_pos
  have hn : x = (x.num : Rat) / (x.den : Rat) := rat_div x
  have hy : x * (x.den : Rat) = (x.num : Rat) := by
    have h0 : (x.den : Rat) ≠ 0 := by grind
    have := Rat.div_mul_cancel (a := (x.num : Rat)) h0
    rw [← hn] at this; exact this
  have hnp : 0 < x.num := by have := (Rat.lt_iff 0 x).1 hx; simpa using this
  have h1 : (1 : Rat) ≤ (x.num : Rat) := by exact_mod_cast hnp
  rw [p2_nat]
  have hp : ((x.den : Nat) : Rat) ≤ ((2 ^ x.den : Nat) : Rat) := by exact_mod_cast Nat.le_of_lt Nat.lt_two_pow_self
  have := Rat.mul_le_mul_of_nonneg_left hp (Rat.le_of_lt hx)
  grind
theorem lg_uniq {m n : Rat} {e f : Int} (m1 : 3 / 4 ≤ m) (m2 : m ≤ 3 / 2) (n1 : 3 / 4 ≤ n) (n2 : n ≤ 3 / 2) (h : m * 2 ^ e = n * 2 ^ f) : lgG m + (e : Rat) * lg2 = lgG n + (f : Rat) * lg2 := by
  have key : ∀ {m n : Rat} {e f : Int}, 3 / 4 ≤ m → m ≤ 3 / 2 → 3 / 4 ≤ n → n ≤ 3 / 2 → m * 2 ^ e = n * 2 ^ f → e < f → lgG m + (e : Rat) * lg2 = lgG n + (f : Rat) * lg2 := by
    intro m n e f m1 m2 n1 n2 h hlt
    have hp := p2_lt hlt
    have he := p2_pos e
    have k1 := Rat.mul_le_mul_of_nonneg_right m2 (Rat.le_of_lt he)
    have k2 := Rat.mul_le_mul_of_nonneg_right n1 (Rat.le_of_lt (p2_pos f))
    have hfe : f = e + 1 := by
      by_cases hc : f = e + 1
      · exact hc
      · have h2 := p2_lt (show e + 1 < f by omega)
        rw [p2_succ] at h2
        grind
    subst hfe
    rw [p2_succ] at h k2 hp
    have hm : m = 2 * n := by
      have : m * 2 ^ e = (2 * n) * 2 ^ e := by grind
      have h0 : (2 : Rat) ^ e ≠ 0 := by grind
      have := congrArg (· * ((2 : Rat) ^ e)⁻¹) this
      simp only [Rat.mul_assoc, Rat.mul_inv_cancel _ h0, Rat.mul_one] at this
      exact this
    have hm2 : m = 3 / 2 := by grind
    have hn2 : n = 3 / 4 := by grind
    subst hm2
    subst hn2
    unfold lg2
    rw [Rat.intCast_add, show ((1 : Int) : Rat) = 1 from rfl]
    grind
  rcases Int.lt_trichotomy e f with hlt | heq | hgt
  · exact key m1 m2 n1 n2 h hlt
  · subst heq
    have h0 : (2 : Rat) ^ e ≠ 0 := by have := p2_pos e; grind
    have := congrArg (· * ((2 : Rat) ^ e)⁻¹) h
    simp only [Rat.mul_assoc, Rat.mul_inv_cancel _ h0, Rat.mul_one] at this
    rw [this]
  · exact (key n1 n2 m1 m2 h.symm hgt).symm
noncomputable def Ln (x : Rat) : Rat := if h : 0 < x then lgG (Classical.choose (Classical.choose_spec (lg_ex h))) + ((Classical.choose (lg_ex h) : Int) : Rat) * lg2 else 0
theorem Ln_at {m : Rat} (m1 : 3 / 4 ≤ m) (m2 : m ≤ 3 / 2) (e : Int) : Ln (m * 2 ^ e) = lgG m + (e : Rat) * lg2 := by
  have hx : 0 < m * 2 ^ e := Rat.mul_pos (by grind) (p2_pos e)
  unfold Ln
  rw [dif_pos hx]
  obtain ⟨g1, g2, g3⟩ := Classical.choose_spec (Classical.choose_spec (lg_ex hx))
  exact lg_uniq g1 g2 m1 m2 g3.symm
theorem Ln_mid {m : Rat} (m1 : 3 / 4 ≤ m) (m2 : m ≤ 3 / 2) : Ln m = lgG m := by
  have := Ln_at m1 m2 0
  rw [show m * 2 ^ (0 : Int) = m by rw [show (2 : Rat) ^ (0 : Int) = 1 by decide +kernel]; grind, show ((0 : Int) : Rat) = 0 from rfl] at this
  grind
theorem Ln_one : Ln 1 = 0 := by
  rw [Ln_mid (by decide +kernel) (by decide +kernel)]
  decide +kernel
/-- Logarithms of products. -/
theorem lgG_mul {m n : Rat} (m1 : 3 / 4 ≤ m) (m2 : m ≤ 3 / 2) (n1 : 3 / 4 ≤ n) (n2 : n ≤ 3 / 2) : av (Ln (m * n) - lgG m - lgG n) ≤ 8 * eta := by
  have g1 : lgG 1 = 0 := by decide +kernel
  have he : (0 : Rat) ≤ eta := by decide +kernel
  have l0 := Rat.mul_le_mul_of_nonneg_right m1 (show 0 ≤ n by grind)
  have u0 := Rat.mul_le_mul_of_nonneg_right m2 (show 0 ≤ n by grind)
  by_cases c1 : m * n < 3 / 4
  · obtain ⟨t, ht⟩ : ∃ t, n * t = 3 / 4 := ⟨3 / 4 / n, by grind⟩
    have t1 : 3 / 4 ≤ t ∧ t ≤ 1 ∧ m ≤ t := by
      refine ⟨?_, ?_, ?_⟩
      · by_cases h : 3 / 4 ≤ t
        · exact h
        · have := Rat.mul_lt_mul_of_pos_left (show t < 3 / 4 by grind) (show 0 < n by grind)
          have := Rat.mul_le_mul_of_nonneg_left m1 (show 0 ≤ n by grind)
          grind
      · by_cases h : t ≤ 1
        · exact h
        · have := Rat.mul_lt_mul_of_pos_left (show 1 < t by grind) (show 0 < n by grind)
          grind
      · by_cases h : m ≤ t
        · exact h
        · have := Rat.mul_lt_mul_of_pos_left (show t < m by grind) (show 0 < n by grind)
          grind
    obtain ⟨t1, t2, t3⟩ := t1
    have A := lgG_seg (a := t) (b := m) (c := 2 * n) (by grind) (by grind) (by grind) (by grind) (by grind) (by grind) (by grind) (by grind) (by grind)
    have B := lgG_seg (a := 1) (b := t) (c := n) (by decide +kernel) (by decide +kernel) (by grind) (by grind) (by grind) (by grind) (by grind) (by grind) (by grind)
    rw [show 2 * n * t = 3 / 2 by grind] at A
    rw [show n * 1 = n by grind, ht, g1] at B
    have e := Ln_at (m := 2 * n * m) (by grind) (by grind) (-1)
    rw [show 2 * n * m * 2 ^ (-1 : Int) = m * n by rw [show (2 : Rat) ^ (-1 : Int) = 1 / 2 by decide +kernel]; grind] at e
    rw [e, show ((-1 : Int) : Rat) = -1 from rfl]
    have C := av_add_le A B
    unfold lg2
    rw [show lgG (2 * n * m) + -1 * (lgG (3 / 2) - lgG (3 / 4)) - lgG m - lgG n = (lgG (2 * n * m) - lgG (3 / 2)) - (lgG m - lgG t) + ((lgG (3 / 4) - lgG n) - (lgG t - 0)) by grind]
    grind
  · by_cases c2 : 3 / 2 < m * n
    · obtain ⟨t, ht⟩ : ∃ t, n * t = 3 / 2 := ⟨3 / 2 / n, by grind⟩
      have t1 : 1 ≤ t ∧ t ≤ m := by
        refine ⟨?_, ?_⟩
        · by_cases h : 1 ≤ t
          · exact h
          · have := Rat.mul_lt_mul_of_pos_left (show t < 1 by grind) (show 0 < n by grind)
            grind
        · by_cases h : t ≤ m
          · exact h
          · have := Rat.mul_lt_mul_of_pos_left (show m < t by grind) (show 0 < n by grind)
            grind
      obtain ⟨t1, t2⟩ := t1
      have A := lgG_seg (a := t) (b := m) (c := n / 2) (by grind) (by grind) (by grind) (by grind) (by grind) (by grind) (by grind) (by grind) (by grind)
      have B := lgG_seg (a := 1) (b := t) (c := n) (by decide +kernel) (by decide +kernel) (by grind) (by grind) (by grind) (by grind) (by grind) (by grind) (by grind)
      rw [show n / 2 * t = 3 / 4 by grind] at A
      rw [show n * 1 = n by grind, ht, g1] at B
      have e := Ln_at (m := n / 2 * m) (by grind) (by grind) 1
      rw [show n / 2 * m * 2 ^ (1 : Int) = m * n by rw [show (2 : Rat) ^ (1 : Int) = 2 by decide +kernel]; grind] at e
      rw [e, show ((1 : Int) : Rat) = 1 from rfl]
      have C := av_add_le A B
      unfold lg2
      rw [show lgG (n / 2 * m) + 1 * (lgG (3 / 2) - lgG (3 / 4)) - lgG m - lgG n = (lgG (n / 2 * m) - lgG (3 / 4)) - (lgG m - lgG t) + ((lgG (3 / 2) - lgG n) - (lgG t - 0)) by grind]
      grind
    · have A := lgG_seg (a := 1) (b := m) (c := n) (by decide +kernel) (by decide +kernel) (by grind) (by grind) (by grind) (by grind) (by grind) (by grind) (by grind)
      rw [show n * 1 = n by grind, g1, show n * m = m * n by grind] at A
      rw [Ln_mid (by grind) (by grind), show lgG (m * n) - lgG m - lgG n = lgG (m * n) - lgG n - (lgG m - 0) by grind]
      grind
theorem Ln_pow {x : Rat} (hx : 0 < x) (e : Int) : Ln (x * 2 ^ e) = Ln x + (e : Rat) * lg2 := by
  obtain ⟨f, m, m1, m2, rfl⟩ := lg_ex hx
  rw [Rat.mul_assoc, ← p2_add, Ln_at m1 m2, Ln_at m1 m2, Rat.intCast_add]
  grind
theorem Ln_mul {x y : Rat} (hx : 0 < x) (hy : 0 < y) : av (Ln (x * y) - Ln x - Ln y) ≤ 8 * eta := by
  obtain ⟨e, m, m1, m2, rfl⟩ := lg_ex hx
  obtain ⟨f, n, n1, n2, rfl⟩ := lg_ex hy
  have h := lgG_mul m1 m2 n1 n2
  have e1 : m * 2 ^ e * (n * 2 ^ f) = m * n * 2 ^ (e + f) := by rw [p2_add]; grind
  rw [e1, Ln_pow (Rat.mul_pos (by grind) (by grind)), Ln_at m1 m2, Ln_at n1 n2, Rat.intCast_add]
  rw [show Ln (m * n) + ((e : Rat) + (f : Rat)) * lg2 - (lgG m + (e : Rat) * lg2) - (lgG n + (f : Rat) * lg2) = Ln (m * n) - lgG m - lgG n by grind]
  exact h
theorem lg2_lo : (6931471805 : Rat) / 10000000000 ≤ lg2 := by decide +kernel
theorem lg2_hi : lg2 ≤ (6931471806 : Rat) / 10000000000 := by decide +kernel
theorem p2_ge (n : Nat) : (n : Rat) + 1 ≤ 2 ^ (n : Int) := by
  rw [p2_nat]
  have : n + 1 ≤ 2 ^ n := Nat.lt_two_pow_self
  have h : ((n + 1 : Nat) : Rat) ≤ ((2 ^ n : Nat) : Rat) := by exact_mod_cast this
  rwa [Rat.natCast_add, show ((1 : Nat) : Rat) = 1 from rfl] at h
/-- The logarithm lies below x - 1. -/
theorem Ln_le {x : Rat} (hx : 0 < x) : Ln x ≤ x - 1 + 2 * eta := by
  obtain ⟨e, m, m1, m2, rfl⟩ := lg_ex hx
  rw [Ln_at m1 m2]
  have g1 : lgG 1 = 0 := by decide +kernel
  have he : (0 : Rat) ≤ eta := by decide +kernel
  have T := lgG_tan (a := 1) (b := m) (by decide +kernel) (by decide +kernel) m1 m2
  have l1 := lg2_lo
  have l2 := lg2_hi
  rw [g1] at T
  have T : lgG m ≤ m - 1 + 2 * eta := by grind
  rcases (show e = 0 ∨ (∃ n : Nat, e = (n : Int) + 1) ∨ e = -1 ∨ e = -2 ∨ (∃ n : Nat, e = -((n : Int) + 3)) by
    rcases Int.lt_trichotomy e 0 with h | h | h
    · by_cases h1 : e = -1
      · exact .inr (.inr (.inl h1))
      · by_cases h2 : e = -2
        · exact .inr (.inr (.inr (.inl h2)))
        · exact .inr (.inr (.inr (.inr ⟨(-e - 3).toNat, by omega⟩)))
    · exact .inl h
    · exact .inr (.inl ⟨(e - 1).toNat, by omega⟩)) with rfl | ⟨n, rfl⟩ | rfl | rfl | ⟨n, rfl⟩
  · rw [show (2 : Rat) ^ (0 : Int) = 1 by decide +kernel, show ((0 : Int) : Rat) = 0 from rfl]
    grind
  · rw [p2_succ, Rat.intCast_add, Rat.intCast_natCast, show ((1 : Int) : Rat) = 1 from rfl]
    have hp := p2_ge n
    have hn : (0 : Rat) ≤ (n : Rat) := by exact_mod_cast Nat.zero_le n
    generalize (2 : Rat) ^ (n : Int) = P at *
    generalize (n : Rat) = k at *
    have k1 := Rat.mul_le_mul_of_nonneg_left l2 (show 0 ≤ k + 1 by grind)
    have k2 := Rat.mul_le_mul_of_nonneg_right m1 (show 0 ≤ 2 * P - 1 by grind)
    grind
  · rw [show (2 : Rat) ^ (-1 : Int) = 1 / 2 by decide +kernel, show ((-1 : Int) : Rat) = -1 from rfl]
    have T2 := lgG_tan (a := 3 / 2) (b := m) (by decide +kernel) (by decide +kernel) m1 m2
    have g2 : lgG (3 / 2) ≤ 41 / 100 := by decide +kernel
    grind
  · rw [show (2 : Rat) ^ (-2 : Int) = 1 / 4 by decide +kernel, show ((-2 : Int) : Rat) = -2 from rfl]
    grind
  · have hp := p2_pos (-((n : Int) + 3))
    have hn : (0 : Rat) ≤ (n : Rat) := by exact_mod_cast Nat.zero_le n
    rw [Rat.intCast_neg, Rat.intCast_add, Rat.intCast_natCast, show ((3 : Int) : Rat) = 3 from rfl]
    generalize (2 : Rat) ^ (-((n : Int) + 3)) = P at *
    generalize (n : Rat) = k at *
    have k1 := Rat.mul_le_mul_of_nonneg_left l1 (show 0 ≤ k + 3 by grind)
    have k2 := Rat.mul_nonneg (show 0 ≤ m by grind) (Rat.le_of_lt hp)
    grind
theorem Ln_mono {x y : Rat} (hx : 0 < x) (h : x ≤ y) : Ln x ≤ Ln y + 10 * eta := by
  obtain ⟨z, hz⟩ : ∃ z, y * z = x := ⟨x / y, by grind⟩
  have hy : 0 < y := by grind
  have z0 : 0 < z := by
    by_cases h0 : 0 < z
    · exact h0
    · have := Rat.mul_le_mul_of_nonneg_left (show z ≤ 0 by grind) (Rat.le_of_lt hy)
      grind
  have z1 : z ≤ 1 := by
    by_cases h0 : z ≤ 1
    · exact h0
    · have := Rat.mul_lt_mul_of_pos_left (show 1 < z by grind) hy
      grind
  have A := Ln_mul hy z0
  rw [hz] at A
  have B := Ln_le z0
  have C : Ln x - Ln y - Ln z ≤ 8 * eta := by
    have : ∀ v : Rat, v ≤ av v := by intro v; unfold av; split <;> grind
    exact Rat.le_trans (this _) A
  grind

end Go.Proofs.Ytmocfnpbofeiiaa

/- The logarithm that both packages reckon is near the exact one. Plain: no program. -/
namespace Go.Proofs.Ytmocfnpbofeiiaa
set_option linter.unusedSimpArgs false
set_option linter.unusedVariables false
open Ieee

theorem rv_ups (x : Nat) (h : 4503599627370496 ≤ x) : ∀ n : Nat, rv double (x + n * 4503599627370496) = 2 ^ (n : Int) * rv double x := by
  intro n
  induction n with
  | zero => rw [Nat.zero_mul, Nat.add_zero, show (2 : Rat) ^ ((0 : Nat) : Int) = 1 by decide +kernel, Rat.one_mul]
  | succ n ih =>
    have := rv_up double (x + n * 4503599627370496) (by rw [d_bin]; omega)
    rw [d_bin] at this
    rw [Nat.add_mul, Nat.one_mul, ← Nat.add_assoc, this, ih, Int.natCast_add, show ((1 : Nat) : Int) = 1 from rfl, p2_succ, Rat.mul_assoc]
theorem ln_val {X : Nat} (h1 : 3936146074321813504 ≤ X) (h2 : X ≤ 5183643171103440896) : sv double X = sv double (lnZ X) * 2 ^ (lnE X) := by
  obtain ⟨b1, b2, b3⟩ := lnN_bd h1 h2
  have hz := lnZ_lt (X := X)
  rw [sv_of_le double (by rw [d_inf]; omega), sv_of_le double (by rw [d_inf]; omega)]
  have e1 := rv_ups (lnY X) (by omega) (lnN1 X)
  have e2 := rv_ups (lnY X) (by omega) (lnN2 X)
  have hX : lnY X + lnN1 X * 4503599627370496 = X := by unfold lnY lnN1 at *; omega
  rw [hX] at e1
  rw [show lnY X + lnN2 X * 4503599627370496 = lnZ X from rfl] at e2
  have e3 : (2 : Rat) ^ ((lnN1 X : Nat) : Int) = 2 ^ ((lnN2 X : Nat) : Int) * 2 ^ (lnE X) := by
    rw [← p2_add]; congr 1; unfold lnE; omega
  rw [e1, e2, e3]
  generalize (2 : Rat) ^ ((lnN2 X : Nat) : Int) = P
  generalize (2 : Rat) ^ (lnE X) = Q
  grind
/-- Horner's way to the row's sum. -/
def qx (u : Rat) : Nat → Rat
  | 0 => 0
  | j + 1 => 1 / (25 - 2 * (j : Rat)) + u * qx u j
theorem qx_eq (s : Rat) : atT s 13 = s * qx (s * s) 13 := by
  have p : ∀ n : Nat, s ^ (n + 1) = s ^ n * s := fun n => Rat.pow_succ s n
  simp only [atT, qx, p, Rat.pow_zero]
  simp only [show ((2 * 0 + 1 : Nat) : Rat) = 1 from rfl, show ((2 * 1 + 1 : Nat) : Rat) = 3 from rfl, show ((2 * 2 + 1 : Nat) : Rat) = 5 from rfl, show ((2 * 3 + 1 : Nat) : Rat) = 7 from rfl, show ((2 * 4 + 1 : Nat) : Rat) = 9 from rfl, show ((2 * 5 + 1 : Nat) : Rat) = 11 from rfl, show ((2 * 6 + 1 : Nat) : Rat) = 13 from rfl, show ((2 * 7 + 1 : Nat) : Rat) = 15 from rfl, show ((2 * 8 + 1 : Nat) : Rat) = 17 from rfl, show ((2 * 9 + 1 : Nat) : Rat) = 19 from rfl, show ((2 * 10 + 1 : Nat) : Rat) = 21 from rfl, show ((2 * 11 + 1 : Nat) : Rat) = 23 from rfl, show ((2 * 12 + 1 : Nat) : Rat) = 25 from rfl,
    show ((0 : Nat) : Rat) = 0 from rfl, show ((1 : Nat) : Rat) = 1 from rfl, show ((2 : Nat) : Rat) = 2 from rfl, show ((3 : Nat) : Rat) = 3 from rfl, show ((4 : Nat) : Rat) = 4 from rfl, show ((5 : Nat) : Rat) = 5 from rfl, show ((6 : Nat) : Rat) = 6 from rfl, show ((7 : Nat) : Rat) = 7 from rfl, show ((8 : Nat) : Rat) = 8 from rfl, show ((9 : Nat) : Rat) = 9 from rfl, show ((10 : Nat) : Rat) = 10 from rfl, show ((11 : Nat) : Rat) = 11 from rfl, show ((12 : Nat) : Rat) = 12 from rfl]
  grind
theorem qx_le {u : Rat} (h0 : 0 ≤ u) (h1 : u ≤ 1 / 25) : ∀ j : Nat, j ≤ 13 → 0 ≤ qx u j ∧ qx u j ≤ 2 := by
  intro j
  induction j with
  | zero => intro _; simp only [qx]; exact ⟨Rat.le_refl, by decide +kernel⟩
  | succ j ih =>
    intro hj
    obtain ⟨i0, i1⟩ := ih (by omega)
    have hq : 0 ≤ 1 / (25 - 2 * (j : Rat)) ∧ 1 / (25 - 2 * (j : Rat)) ≤ 1 := by
      have : ∀ j : Nat, j < 13 → 0 ≤ 1 / (25 - 2 * (j : Rat)) ∧ 1 / (25 - 2 * (j : Rat)) ≤ 1 := by decide +kernel
      exact this j (by omega)
    have m1 := Rat.mul_nonneg h0 i0
    have m2 := Rat.mul_le_mul_of_nonneg_right h1 i0
    simp only [qx]
    generalize 1 / (25 - 2 * (j : Rat)) = r at *
    generalize qx u j = q at *
    constructor <;> grind
theorem inv_ap : ∀ j : Nat, j < 13 → Ap .f64 (fA .quo .f64 4607182418800017408 (floatOfInt .f64 (25 - 2 * (j : Int)))) (1 / (25 - 2 * (j : Rat))) (1 / 1000000000000000) := by
  have h : ∀ j : Nat, j < 13 → rg double (fA .quo .f64 4607182418800017408 (floatOfInt .f64 (25 - 2 * (j : Int)))) < double.infRung ∧ av (sv double (fA .quo .f64 4607182418800017408 (floatOfInt .f64 (25 - 2 * (j : Int)))) - 1 / (25 - 2 * (j : Rat))) ≤ 1 / 1000000000000000 := by decide +kernel
  exact h
theorem one_ap : Ap .f64 4607182418800017408 1 0 := Ap.ex (fin_of_lt double (by rw [d_inf]; omega)) sv_one
theorem two_ap : Ap .f64 4611686018427387904 2 0 := Ap.ex (fin_of_lt double (by rw [d_inf]; omega)) (by rw [show FloatKind.f64.format = double from rfl, sv_of_le double (by rw [d_inf]; omega)]; exact rv_2)
theorem lnS_ap {z : Nat} (h1 : 4604930618986332160 ≤ z) (h2 : z < 4609434218613702656) : 3 / 4 ≤ sv double z ∧ sv double z ≤ 3 / 2 ∧ Ap .f64 (lnS z) (lgS (sv double z)) (1 / 1000000000000000) := by
  have fz : Fnt double z := fin_of_lt double (by rw [d_inf]; omega)
  have g1 : (3 : Rat) / 4 ≤ sv double z := by
    rw [← sv_075, sv_of_le double (by rw [d_inf]; omega), sv_of_le double (by rw [d_inf]; omega)]
    exact rv_le _ h1
  have g2 : sv double z ≤ 3 / 2 := by
    rw [← sv_15, sv_of_le double (by rw [d_inf]; omega), sv_of_le double (by rw [d_inf]; omega)]
    exact rv_le _ (by omega)
  refine ⟨g1, g2, ?_⟩
  have hz : Ap .f64 z (sv double z) 0 := Ap.self fz
  generalize sv double z = m at *
  obtain ⟨_, a⟩ := ap_sub (E := 1 / 4000000000000000) hz one_ap (A := 1) (av_le (by grind) (by grind)) (by decide +kernel) (by decide +kernel)
  obtain ⟨_, b⟩ := ap_add (E := 1 / 1000000000000000) hz one_ap (A := 4) (av_le (by grind) (by grind)) (by decide +kernel) (by decide +kernel)
  obtain ⟨_, c⟩ := ap_div (E := 1 / 1000000000000000) (Q := 1 / 5) (c := 1) a b (by decide +kernel) (by rw [av_of_nonneg (by grind)]; grind) (lgS_le g1 g2) (by decide +kernel) (by decide +kernel)
  exact c
/-- The steps of the row. -/
theorem lnQ_ap {u : Nat} {v : Rat} (hu : Ap .f64 u v (1 / 1000000000000000)) (v0 : 0 ≤ v) (v1 : v ≤ 1 / 25) : ∀ j, j ≤ 13 → Ap .f64 (lnQ u j) (qx v j) (1 / 100000000000000) := by
  intro j
  induction j with
  | zero => intro _; exact (Ap.ex (k := .f64) (x := 0) (show Fnt double 0 by unfold Fnt; decide) (show sv double 0 = 0 by decide +kernel)).mono (by decide +kernel)
  | succ j ih =>
    intro hj
    have h1 := ih (by omega)
    obtain ⟨q0, q1⟩ := qx_le v0 v1 j (by omega)
    obtain ⟨_, m⟩ := ap_mul (E := 1 / 300000000000000) hu h1 (A := 1 / 25) (B := 2) (by rw [av_of_nonneg v0]; exact v1) (by rw [av_of_nonneg q0]; exact q1) (by decide +kernel) (by decide +kernel)
    obtain ⟨r0, r1⟩ := qx_le v0 v1 (j + 1) hj
    obtain ⟨_, s⟩ := ap_add (E := 1 / 100000000000000) (inv_ap j (by omega)) m (A := 2) (by
      have : av (qx v (j + 1)) ≤ 2 := by rw [av_of_nonneg r0]; exact r1
      exact this) (by decide +kernel) (by decide +kernel)
    exact s
theorem foi_200 : ∀ k : Nat, k < 400 → rg double (floatOfInt .f64 ((k : Int) - 200)) < double.infRung ∧ sv double (floatOfInt .f64 ((k : Int) - 200)) = (k : Rat) - 200 := by decide +kernel
theorem foi_ap {e : Int} (h1 : -200 ≤ e) (h2 : e < 200) : Ap .f64 (floatOfInt .f64 e) (e : Rat) 0 := by
  obtain ⟨a, b⟩ := foi_200 (e + 200).toNat (by omega)
  have h : (((e + 200).toNat : Nat) : Int) - 200 = e := by omega
  rw [h] at a b
  refine Ap.ex a ?_
  rw [show FloatKind.f64.format = double from rfl, b]
  have : (e : Rat) = (((((e + 200).toNat : Nat) : Int) - 200 : Int) : Rat) := by rw [h]
  rw [this, Rat.intCast_sub, Rat.intCast_natCast]
  rfl
theorem l2_ap : Ap .f64 4604418534313441775 lg2 (1 / 5000000000000000) := by
  have h : rg double 4604418534313441775 < double.infRung ∧ av (sv double 4604418534313441775 - lg2) ≤ 1 / 5000000000000000 := by decide +kernel
  exact h
/-- The logarithm of a double word. -/
theorem lnW_ap {X : Nat} (h1 : 3936146074321813504 ≤ X) (h2 : X ≤ 5183643171103440896) : Ap .f64 (lnW X) (Ln (sv double X)) (1 / 1000000000000) := by
  obtain ⟨b1, b2, b3⟩ := lnN_bd h1 h2
  have hz1 := lnN2_ge (X := X)
  have hz2 := lnZ_lt (X := X)
  obtain ⟨g1, g2, hs⟩ := lnS_ap (z := lnZ X) (by omega) hz2
  have hv := ln_val h1 h2
  have e1 : (-200 : Int) ≤ lnE X := by unfold lnE; omega
  have e2 : lnE X ≤ 150 := by unfold lnE; omega
  have e3 : (-150 : Int) ≤ lnE X := by unfold lnE; omega
  rw [hv, Ln_at g1 g2]
  have hsl := lgS_le g1 g2
  generalize hm : sv double (lnZ X) = m at *
  unfold lnW lnR
  generalize lnE X = e at *
  unfold lgG
  rw [qx_eq]
  generalize lgS m = s at *
  generalize lnS (lnZ X) = S at *
  have s0 := sq_nonneg s
  have s1 : s * s ≤ 1 / 25 := by have := av_mul_le' hsl hsl; rw [av_sq] at this; grind
  obtain ⟨_, hu⟩ := ap_mul (E := 1 / 1000000000000000) hs hs (A := 1 / 5) (B := 1 / 5) hsl hsl (by decide +kernel) (by decide +kernel)
  have hq := lnQ_ap hu s0 s1 13 (by omega)
  obtain ⟨q0, q1⟩ := qx_le s0 s1 13 (by omega)
  obtain ⟨_, p⟩ := ap_mul (E := 1 / 100000000000000) hs hq (A := 1 / 5) (B := 2) hsl (by rw [av_of_nonneg q0]; exact q1) (by decide +kernel) (by decide +kernel)
  have pq : av (s * qx (s * s) 13) ≤ 2 / 5 := by
    have := av_mul_le' hsl (show av (qx (s * s) 13) ≤ 2 by rw [av_of_nonneg q0]; exact q1)
    grind
  obtain ⟨_, p2⟩ := ap_mul (E := 1 / 10000000000000) two_ap p (A := 2) (B := 2 / 5) (by decide +kernel) pq (by decide +kernel) (by decide +kernel)
  have he : av (e : Rat) ≤ 150 := by
    refine av_le ?_ ?_
    · exact_mod_cast e2
    · have : ((-150 : Int) : Rat) ≤ (e : Rat) := Rat.intCast_le_intCast.2 e3
      exact this
  have hl2 : av lg2 ≤ 1 := by decide +kernel
  obtain ⟨_, r⟩ := ap_mul (E := 1 / 10000000000000) (foi_ap e1 (by omega)) l2_ap (A := 150) (B := 1) he hl2 (by decide +kernel) (by decide +kernel)
  have r1 := av_mul_le' he hl2
  have p3 := av_mul_le' (show av 2 ≤ 2 by decide +kernel) pq
  obtain ⟨_, t⟩ := ap_add (E := 1 / 1000000000000) p2 r (A := 200) (by
    have := av_add (2 * (s * qx (s * s) 13)) ((e : Rat) * lg2)
    grind) (by decide +kernel) (by decide +kernel)
  exact t

end Go.Proofs.Ytmocfnpbofeiiaa

/- Logarithms of numbers that lie near one another. Plain: no program. -/
namespace Go.Proofs.Ytmocfnpbofeiiaa
set_option linter.unusedSimpArgs false
set_option linter.unusedVariables false
open Ieee

theorem Ln_up {x y d : Rat} (hx : 0 < x) (hy : 0 < y) (h : x ≤ y + d * y) : Ln x ≤ Ln y + d + 10 * eta := by
  obtain ⟨z, hz⟩ : ∃ z, y * z = x := ⟨x / y, by grind⟩
  have z0 : 0 < z := by
    by_cases h0 : 0 < z
    · exact h0
    · have := Rat.mul_le_mul_of_nonneg_left (show z ≤ 0 by grind) (Rat.le_of_lt hy)
      grind
  have z1 : z ≤ 1 + d := by
    by_cases h0 : z ≤ 1 + d
    · exact h0
    · have := Rat.mul_lt_mul_of_pos_left (show 1 + d < z by grind) hy
      grind
  have A := Ln_mul hy z0
  rw [hz] at A
  have B := Ln_le z0
  have C := Rat.le_trans (le_av _) A
  grind
/-- Numbers within a share of one another have logarithms that lie near. -/
theorem Ln_near {x y d : Rat} (hy : 0 < y) (hd : d ≤ 1 / 2) (h : av (x - y) ≤ d * y) : 0 < x ∧ av (Ln x - Ln y) ≤ 2 * d + 10 * eta := by
  have h1 := Rat.le_trans (le_av _) h
  have h2 := Rat.le_trans (neg_le_av _) h
  have d0 : 0 ≤ d := by
    by_cases h0 : 0 ≤ d
    · exact h0
    · have := Rat.mul_lt_mul_of_pos_right (show d < 0 by grind) hy
      have := av_nonneg (x - y)
      grind
  have k1 := Rat.mul_le_mul_of_nonneg_right hd (Rat.le_of_lt hy)
  have hx : 0 < x := by grind
  refine ⟨hx, av_le ?_ ?_⟩
  · have := Ln_up (d := d) hx hy (by grind)
    have : (0 : Rat) ≤ eta := by decide +kernel
    grind
  · have k2 := Rat.mul_le_mul_of_nonneg_left (show y ≤ 2 * x by grind) d0
    have := Ln_up (d := 2 * d) hy hx (by grind)
    grind

end Go.Proofs.Ytmocfnpbofeiiaa

/- Sums of fractions and their logarithms: Gibbs' inequality. Plain: no program. -/
namespace Go.Proofs.Ytmocfnpbofeiiaa
set_option linter.unusedSimpArgs false
set_option linter.unusedVariables false
open Ieee

/-- The sum of the first n. -/
def smN (f : Nat → Rat) : Nat → Rat
  | 0 => 0
  | n + 1 => smN f n + f n
theorem smN_le {f g : Nat → Rat} : ∀ n, (∀ i, i < n → f i ≤ g i) → smN f n ≤ smN g n
  | 0, _ => Rat.le_refl
  | n + 1, h => by
    have h1 := smN_le n (fun i hi => h i (by omega))
    have h2 := h n (by omega)
    simp only [smN]
    grind
theorem smN_eq {f g : Nat → Rat} : ∀ n, (∀ i, i < n → f i = g i) → smN f n = smN g n
  | 0, _ => rfl
  | n + 1, h => by
    simp only [smN]
    rw [smN_eq n (fun i hi => h i (by omega)), h n (by omega)]
theorem smN_add (f g : Nat → Rat) : ∀ n, smN (fun i => f i + g i) n = smN f n + smN g n
  | 0 => by simp only [smN]; grind
  | n + 1 => by simp only [smN]; rw [smN_add f g n]; grind
theorem smN_mul (c : Rat) (f : Nat → Rat) : ∀ n, smN (fun i => c * f i) n = c * smN f n
  | 0 => by simp only [smN]; grind
  | n + 1 => by simp only [smN]; rw [smN_mul c f n]; grind
theorem smN_nonneg {f : Nat → Rat} : ∀ n, (∀ i, i < n → 0 ≤ f i) → 0 ≤ smN f n
  | 0, _ => Rat.le_refl
  | n + 1, h => by
    have h1 := smN_nonneg n (fun i hi => h i (by omega))
    have h2 := h n (by omega)
    simp only [smN]
    grind
theorem smN_pos {f : Nat → Rat} {n : Nat} (hn : 1 ≤ n) (h : ∀ i, i < n → 0 < f i) : 0 < smN f n := by
  obtain ⟨m, rfl⟩ : ∃ m, n = m + 1 := ⟨n - 1, by omega⟩
  have h1 := smN_nonneg m (fun i hi => Rat.le_of_lt (h i (by omega)))
  have h2 := h m (by omega)
  simp only [smN]
  grind
/-- What a number tells beside another one is at most their difference. -/
theorem gib1 {p q : Rat} (hp : 0 < p) (hq : 0 < q) : p * (Ln q - Ln p) ≤ q - p + 10 * eta * p := by
  obtain ⟨z, hz⟩ : ∃ z, p * z = q := ⟨q / p, by grind⟩
  have z0 : 0 < z := by
    by_cases h0 : 0 < z
    · exact h0
    · have := Rat.mul_le_mul_of_nonneg_left (show z ≤ 0 by grind) (Rat.le_of_lt hp)
      grind
  have A := Ln_mul hp z0
  rw [hz] at A
  have B := Ln_le z0
  have C := Rat.le_trans (le_av _) A
  have D := Rat.mul_le_mul_of_nonneg_left (show Ln q - Ln p ≤ z - 1 + 10 * eta by grind) (Rat.le_of_lt hp)
  grind
/-- Gibbs' inequality. -/
theorem gibbs {p q : Nat → Rat} {n : Nat} (hn : 1 ≤ n) (hp : ∀ i, i < n → 0 < p i) (hq : ∀ i, i < n → 0 < q i) :
    smN (fun i => p i * (Ln (q i) - Ln (p i))) n ≤ smN p n * (Ln (smN q n) - Ln (smN p n)) + 40 * eta * smN p n := by
  have hP := smN_pos hn hp
  have hQ := smN_pos hn hq
  obtain ⟨z, hz⟩ : ∃ z, smN q n * z = smN p n := ⟨smN p n / smN q n, by grind⟩
  have z0 : 0 < z := by
    by_cases h0 : 0 < z
    · exact h0
    · have := Rat.mul_le_mul_of_nonneg_left (show z ≤ 0 by grind) (Rat.le_of_lt hQ)
      grind
  have he : (0 : Rat) ≤ eta := by decide +kernel
  have A := Ln_mul hQ z0
  rw [hz] at A
  have A1 := Rat.le_trans (neg_le_av _) A
  have A2 := Rat.le_trans (le_av _) A
  have key : ∀ i, i < n → p i * (Ln (q i) - Ln (p i)) ≤ z * q i - p i + (18 * eta - Ln z) * p i := by
    intro i hi
    have h1 := gib1 (hp i hi) (Rat.mul_pos (hq i hi) z0)
    have h2 := Ln_mul (hq i hi) z0
    have h3 := Rat.le_trans (neg_le_av _) h2
    have h4 := Rat.mul_le_mul_of_nonneg_left (show Ln (q i) - Ln (p i) ≤ (Ln (q i * z) - Ln (p i)) - Ln z + 8 * eta by grind) (Rat.le_of_lt (hp i hi))
    grind
  have S := smN_le n key
  have e : smN (fun i => z * q i - p i + (18 * eta - Ln z) * p i) n = z * smN q n - smN p n + (18 * eta - Ln z) * smN p n := by
    have e1 : smN (fun i => z * q i - p i + (18 * eta - Ln z) * p i) n = smN (fun i => z * q i + (17 - 18 + 18 * eta - Ln z) * p i) n := smN_eq n (fun i _ => by grind)
    rw [e1, smN_add (fun i => z * q i) (fun i => (17 - 18 + 18 * eta - Ln z) * p i), smN_mul, smN_mul]
    grind
  rw [e] at S
  have k := Rat.mul_le_mul_of_nonneg_left (show -Ln z ≤ Ln (smN q n) - Ln (smN p n) + 8 * eta by grind) (Rat.le_of_lt hP)
  have k2 := Rat.mul_nonneg he (Rat.le_of_lt hP)
  grind
/-- Sums lie below what lies between others. -/
theorem lse {p q r : Nat → Rat} {n : Nat} {l c : Rat} (hn : 1 ≤ n) (hp : ∀ i, i < n → 0 < p i) (hq : ∀ i, i < n → 0 < q i) (hr : ∀ i, i < n → 0 < r i) (l0 : 0 ≤ l) (l1 : l ≤ 1)
    (h : ∀ i, i < n → Ln (p i) ≤ l * Ln (q i) + (1 - l) * Ln (r i) + c) : Ln (smN p n) ≤ l * Ln (smN q n) + (1 - l) * Ln (smN r n) + c + 40 * eta := by
  have hP := smN_pos hn hp
  have A := gibbs hn hp hq
  have B := gibbs hn hp hr
  have A' := Rat.mul_le_mul_of_nonneg_left A l0
  have B' := Rat.mul_le_mul_of_nonneg_left B (show 0 ≤ 1 - l by grind)
  have S : smN (fun i => (-c) * p i) n ≤ smN (fun i => l * (p i * (Ln (q i) - Ln (p i))) + (1 - l) * (p i * (Ln (r i) - Ln (p i)))) n := by
    refine smN_le n (fun i hi => ?_)
    have k := Rat.mul_le_mul_of_nonneg_left (h i hi) (Rat.le_of_lt (hp i hi))
    grind
  rw [smN_mul, smN_add (fun i => l * (p i * (Ln (q i) - Ln (p i)))) (fun i => (1 - l) * (p i * (Ln (r i) - Ln (p i)))), smN_mul, smN_mul] at S
  generalize smN (fun i => p i * (Ln (q i) - Ln (p i))) n = a at *
  generalize smN (fun i => p i * (Ln (r i) - Ln (p i))) n = b at *
  generalize smN p n = P at *
  generalize Ln P = lp at *
  generalize Ln (smN q n) = lq at *
  generalize Ln (smN r n) = lr at *
  have T : 0 ≤ P * (l * lq + (1 - l) * lr + c + 40 * eta - lp) := by grind
  by_cases hc : lp ≤ l * lq + (1 - l) * lr + c + 40 * eta
  · exact hc
  · have := Rat.mul_lt_mul_of_pos_left (show l * lq + (1 - l) * lr + c + 40 * eta - lp < 0 by grind) hP
    grind
/-- Sums of numbers that lie below others. -/
theorem lse1 {p q : Nat → Rat} {n : Nat} {c : Rat} (hn : 1 ≤ n) (hp : ∀ i, i < n → 0 < p i) (hq : ∀ i, i < n → 0 < q i) (h : ∀ i, i < n → Ln (p i) ≤ Ln (q i) + c) : Ln (smN p n) ≤ Ln (smN q n) + c + 40 * eta := by
  have := lse hn hp hq hq (l := 1) (c := c) (by decide +kernel) Rat.le_refl (fun i hi => by have := h i hi; grind)
  grind

end Go.Proofs.Ytmocfnpbofeiiaa

/- Sums of single words that are not below zero, near the exact sums. Plain: no program. -/
namespace Go.Proofs.Ytmocfnpbofeiiaa
set_option linter.unusedSimpArgs false
set_option linter.unusedVariables false
open Ieee

def flS (w : Nat → Nat) : Nat → Nat
  | 0 => 0
  | k + 1 => fA .add .f32 (flS w k) (w k)
theorem smN_mono {f : Nat → Rat} {n : Nat} (h : ∀ i, i < n → 0 ≤ f i) : ∀ k, k ≤ n → smN f k ≤ smN f n := by
  induction n with
  | zero => intro k hk; obtain rfl : k = 0 := by omega
            exact Rat.le_refl
  | succ n ih =>
    intro k hk
    by_cases hc : k = n + 1
    · subst hc; exact Rat.le_refl
    · have h1 := ih (fun i hi => h i (by omega)) k (by omega)
      have h2 := h n (by omega)
      simp only [smN]
      grind
theorem zero_ap : Ap .f32 0 0 0 := Ap.ex (k := .f32) (x := 0) (show Fnt single 0 by unfold Fnt; decide) (show sv single 0 = 0 by decide +kernel)
theorem sum_step {k T : Rat} (hk0 : 0 ≤ k) (hk : k ≤ 64) (hT : 1 / 100000 ≤ T) : k * (T / 8000000) + 0 + (T + (k * (T / 8000000) + 0)) * es + ts ≤ (k + 1) * (T / 8000000) := by
  have c1 : es ≤ 1 / 8388608 := by decide +kernel
  have c2 : ts ≤ 1 / 100000000000000000000 := by decide +kernel
  have m1 := Rat.mul_le_mul_of_nonneg_right hk (show 0 ≤ T by grind)
  have m3 := Rat.mul_nonneg hk0 (show 0 ≤ T by grind)
  have m2 := Rat.mul_le_mul_of_nonneg_left c1 (show 0 ≤ T + k * (T / 8000000) by grind)
  generalize es = a at *
  generalize ts = b at *
  grind
theorem flS_ap {w : Nat → Nat} {n : Nat} (hn : n ≤ 64) (hf : ∀ i, i < n → Fnt single (w i)) (h0 : ∀ i, i < n → 0 ≤ sv single (w i)) (hT1 : 1 / 100000 ≤ smN (fun i => sv single (w i)) n) (hT2 : smN (fun i => sv single (w i)) n ≤ 1000000) :
    ∀ k, k ≤ n → Ap .f32 (flS w k) (smN (fun i => sv single (w i)) k) ((k : Rat) * (smN (fun i => sv single (w i)) n / 8000000)) ∧ (k < n → (floatBits .add .f32 (flS w k) (w k)).isSome = true) := by
  have step : ∀ k, k < n → Ap .f32 (flS w k) (smN (fun i => sv single (w i)) k) ((k : Rat) * (smN (fun i => sv single (w i)) n / 8000000)) → (floatBits .add .f32 (flS w k) (w k)).isSome = true ∧ Ap .f32 (flS w (k + 1)) (smN (fun i => sv single (w i)) (k + 1)) (((k + 1 : Nat) : Rat) * (smN (fun i => sv single (w i)) n / 8000000)) := by
    intro k hk ih
    have hm := smN_mono (f := fun i => sv single (w i)) h0 (k + 1) hk
    have hz := smN_nonneg (f := fun i => sv single (w i)) (k + 1) (fun i hi => h0 i (by omega))
    have hkr : (k : Rat) ≤ 64 := by
      have : (k : Rat) ≤ ((64 : Nat) : Rat) := by exact_mod_cast (show k ≤ 64 by omega)
      exact this
    have hk0 : (0 : Rat) ≤ (k : Rat) := by exact_mod_cast Nat.zero_le k
    have hw : Ap .f32 (w k) (sv single (w k)) 0 := Ap.self (k := .f32) (hf k hk)
    have hh : (10000000 : Rat) ≤ huge .f32 := by decide +kernel
    obtain ⟨a, b⟩ := ap_add (k := .f32) (A := smN (fun i => sv single (w i)) n) ih hw (by
        rw [av_of_nonneg (by exact hz)]
        exact hm) (by
        have m1 := Rat.mul_le_mul_of_nonneg_right hkr (show 0 ≤ smN (fun i => sv single (w i)) n / 8000000 by grind)
        grind) (sum_step hk0 hkr hT1)
    refine ⟨a, ?_⟩
    rw [Rat.natCast_add, show ((1 : Nat) : Rat) = 1 from rfl]
    exact b
  have all : ∀ k, k ≤ n → Ap .f32 (flS w k) (smN (fun i => sv single (w i)) k) ((k : Rat) * (smN (fun i => sv single (w i)) n / 8000000)) := by
    intro k
    induction k with
    | zero =>
      intro _
      rw [show ((0 : Nat) : Rat) = 0 from rfl, Rat.zero_mul]
      exact zero_ap
    | succ k ih => intro hk; exact (step k (by omega) (ih (by omega))).2
  exact fun k hk => ⟨all k hk, fun h => (step k h (all k hk)).1⟩

end Go.Proofs.Ytmocfnpbofeiiaa
