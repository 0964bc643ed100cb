/- How far a rounded value lies from the exact one. Plain: no program. -/
import Derived.Test.YtimhljcebeiofaaGreatDoorExl
namespace Go.Proofs.YtimhljcebeiofaaGreatDoor
set_option linter.unusedSimpArgs false
set_option linter.unusedVariables false
open Ieee

/-- The step from a rung to the next one. -/
def gap (f : Format) (r : Nat) : Rat := pv 1 (f.leastPlace + (r / f.binade - 1 : Nat))
theorem gap_nonneg (f : Format) (r : Nat) : 0 ≤ gap f r := pv_nonneg _ _
theorem gap_mono (f : Format) {r s : Nat} (h : r ≤ s) : gap f r ≤ gap f s := by
  unfold gap
  refine pv_mono_place ?_
  have := Nat.div_le_div_right (c := f.binade) h
  omega
theorem near_err {f : Format} {v : Rat} {r : Nat} (h : Near f v r) (hv : 0 ≤ v) : 2 * (v - rv f r) ≤ gap f r ∧ 2 * (rv f r - v) ≤ gap f r := by
  constructor
  · have h1 := h.hi
    rw [rv_succ] at h1
    unfold gap
    grind
  · by_cases h0 : r = 0
    · subst h0
      rw [rv_zero]
      have := gap_nonneg f 0
      grind
    · have h1 := h.lo h0
      have h2 := rv_succ f (r - 1)
      rw [show r - 1 + 1 = r by omega] at h2
      have h3 := gap_mono f (show r - 1 ≤ r by omega)
      unfold gap at h3 ⊢
      grind
theorem gap_le (f : Format) (r : Nat) : gap f r * (f.binade : Rat) ≤ rv f r + pv 1 f.leastPlace * (f.binade : Rat) := by
  have hB := binade_pos f
  have hBR : (0 : Rat) ≤ (f.binade : Rat) := by exact_mod_cast Nat.zero_le _
  unfold gap rv
  by_cases h : r < f.binade
  · rw [if_pos h, Nat.div_eq_of_lt h]
    have := pv_nonneg r f.leastPlace
    have e : f.leastPlace + ((0 - 1 : Nat) : Int) = f.leastPlace := by omega
    rw [e]
    grind
  · rw [if_neg h]
    have h1 : pv 1 (f.leastPlace + (r / f.binade - 1 : Nat)) * (f.binade : Rat) = pv f.binade (f.leastPlace + (r / f.binade - 1 : Nat)) := by
      unfold pv; rw [show ((1 : Nat) : Rat) = 1 from rfl, Rat.one_mul, Rat.mul_comm]
    have h2 := pv_le (m := f.binade) (n := f.binade + r % f.binade) (f.leastPlace + (r / f.binade - 1 : Nat)) (by omega)
    have h3 : 0 ≤ pv 1 f.leastPlace * (f.binade : Rat) := Rat.mul_nonneg (pv_nonneg _ _) hBR
    rw [h1]
    grind
theorem Rnd.fin_rung {f : Format} {v : Rat} {w : Nat} (h : Rnd f v w) (hf : Fnt f w) : Near f (av v) (rg f w) ∧ (0 < v → sg f w = false) ∧ (v < 0 → sg f w = true) := by
  have hs := h.sgn
  obtain ⟨s, q, rfl, hn, h1, h2⟩ := h
  have e := rg_word f s (Nat.min_le_right q f.infRung)
  unfold Fnt at hf
  rw [e] at hf
  have : min q f.infRung = q := by omega
  rw [e, this]
  rw [this] at hs
  exact ⟨hn, hs⟩
theorem rnd_gap {f : Format} {v : Rat} {w : Nat} (h : Rnd f v w) (hf : Fnt f w) : 2 * av (sv f w - v) ≤ gap f (rg f w) := by
  obtain ⟨hn, h1, h2⟩ := h.fin_rung hf
  obtain ⟨e1, e2⟩ := near_err hn (av_nonneg v)
  by_cases h0 : 0 < v
  · rw [sv_sg (h1 h0)]
    rw [av_of_nonneg (by grind)] at e1 e2
    simp only [Bool.false_eq_true, if_false]
    unfold av; split <;> grind
  · by_cases h3 : v < 0
    · rw [sv_sg (h2 h3)]
      have : av v = -v := by unfold av; rw [if_pos h3]
      rw [this] at e1 e2
      simp only [if_true]
      unfold av; split <;> grind
    · have hv : v = 0 := by grind
      rw [sv_rg0 (rnd_zero h hv), hv]
      have := gap_nonneg f (rg f w)
      have e : av ((0 : Rat) - 0) = 0 := by decide +kernel
      rw [e]; grind
def ed : Rat := 1 / 4503599627370496
def es : Rat := 1 / 8388608
def td : Rat := pv 1 (-1074)
def ts : Rat := pv 1 (-149)
theorem td_pos : 0 ≤ td := pv_nonneg _ _
theorem ts_pos : 0 ≤ ts := pv_nonneg _ _
theorem rnd_err_of {f : Format} {e t v : Rat} {w : Nat} (h : Rnd f v w) (hf : Fnt f w) (he : e * (f.binade : Rat) = 1) (he1 : 0 ≤ e) (he2 : e ≤ 1) (ht : pv 1 f.leastPlace = t) : av (sv f w - v) ≤ av v * e + t := by
  have h1 := rnd_gap h hf
  have h2 := gap_le f (rg f w)
  have h3 : gap f (rg f w) ≤ av (sv f w) * e + t := by
    have h4 := Rat.mul_le_mul_of_nonneg_right h2 he1
    rw [Rat.add_mul, Rat.mul_assoc, Rat.mul_assoc (pv 1 f.leastPlace), Rat.mul_comm (f.binade : Rat) e, he, Rat.mul_one, Rat.mul_one, ht] at h4
    rw [av_sv]; exact h4
  have h5 : av (sv f w) ≤ av v + av (sv f w - v) := by
    have := av_add v (sv f w - v)
    rwa [show v + (sv f w - v) = sv f w by grind] at this
  have h6 := Rat.mul_le_mul_of_nonneg_right h5 he1
  rw [Rat.add_mul] at h6
  have h7 : av (sv f w - v) * e ≤ av (sv f w - v) := by
    have := Rat.mul_le_mul_of_nonneg_left he2 (av_nonneg (sv f w - v))
    rwa [Rat.mul_one] at this
  have := av_nonneg (sv f w - v)
  grind
theorem d_lp : double.leastPlace = -1074 := by decide
theorem s_lp : single.leastPlace = -149 := by decide
theorem s_bin : single.binade = 8388608 := by decide
/-- A double word's distance from what it is the rounding of. -/
theorem err_d {v : Rat} {w : Nat} (h : Rnd double v w) (hf : Fnt double w) : av (sv double w - v) ≤ av v * ed + td :=
  rnd_err_of h hf (by rw [d_bin]; decide +kernel) (by decide +kernel) (by decide +kernel) (by rw [d_lp]; rfl)
/-- A single word's distance from what it is the rounding of. -/
theorem err_s {v : Rat} {w : Nat} (h : Rnd single v w) (hf : Fnt single w) : av (sv single w - v) ≤ av v * es + ts :=
  rnd_err_of h hf (by rw [s_bin]; decide +kernel) (by decide +kernel) (by decide +kernel) (by rw [s_lp]; rfl)

end Go.Proofs.YtimhljcebeiofaaGreatDoor
