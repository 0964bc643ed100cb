/- Words near exact fractions, by relative errors, and their bits (plain). -/
import Derived.Test.YtmocfnpbofeiiaaMSnG
import Derived.Test.YtmocfnpbofeiiaaMSu32
import Derived.Test.YtmocfnpbofeiiaaMEnt
import Derived.Test.YtmocfnpbofeiiaaMCnR
namespace Go.Proofs.Ytmocfnpbofeiiaa
set_option linter.unusedSimpArgs false
set_option linter.unusedVariables false
open Ieee
open Go.RowKit
/-- The word is near p as a part of p; nothing where p is nothing. -/
def Rq (d : Rat) (x : Nat) (p : Rat) : Prop := x < 2139095040 ∧ (p = 0 → x = 0) ∧ (p ≠ 0 → 1 / 10000 ≤ p) ∧ p ≤ 2 ∧ av (sv single x - p) ≤ d * p
theorem Rq.fnt {d : Rat} {x : Nat} {p : Rat} (h : Rq d x p) : Fnt single x := fin_of_lt single (by rw [s_inf]; exact h.1)
theorem Rq.nn {d : Rat} {x : Nat} {p : Rat} (h : Rq d x p) : 0 ≤ p := by
  by_cases h0 : p = 0
  · rw [h0]; exact Rat.le_refl
  · have := h.2.2.1 h0; grind
theorem Rq.ap {d e : Rat} {x : Nat} {p : Rat} (h : Rq d x p) (he : d * p ≤ e) : Ap .f32 x p e := ⟨h.fnt, Rat.le_trans h.2.2.2.2 he⟩
theorem Rq.mono {d e : Rat} {x : Nat} {p : Rat} (h : Rq d x p) (he : d ≤ e) : Rq e x p := ⟨h.1, h.2.1, h.2.2.1, h.2.2.2.1, Rat.le_trans h.2.2.2.2 (Rat.mul_le_mul_of_nonneg_right he h.nn)⟩
theorem Rq.pos {d : Rat} {x : Nat} {p : Rat} (h : Rq d x p) (hd : d ≤ 1 / 1000) (hp : p ≠ 0) : 0 < x ∧ 0 < sv single x := by
  have h1 := h.2.2.1 hp
  have h2 := Rat.le_trans (neg_le_av _) h.2.2.2.2
  have h3 := Rat.mul_le_mul_of_nonneg_right hd h.nn
  have h4 : 0 < sv single x := by grind
  refine ⟨?_, h4⟩
  rcases Nat.eq_zero_or_pos x with h0 | h0
  · subst h0
    rw [show sv single 0 = 0 by decide +kernel] at h4
    exact absurd h4 (by decide +kernel)
  · exact h0
theorem Rq.zero (d : Rat) : Rq d 0 0 := ⟨by decide, fun _ => rfl, fun h => absurd rfl h, by decide +kernel, by rw [show sv single 0 - 0 = 0 by decide +kernel, Rat.mul_zero]; decide +kernel⟩
theorem Rq.nil {d : Rat} {x : Nat} {p : Rat} (h : Rq d x p) (hd : d ≤ 1 / 1000) : x = 0 ↔ p = 0 := ⟨fun h0 => by
  by_cases hp : p = 0
  · exact hp
  · have := (h.pos hd hp).1; omega, h.2.1⟩
theorem Rq.ge0 {d : Rat} {x : Nat} {p : Rat} (h : Rq d x p) (hp : p ≠ 0) : 0 ≤ d := by
  have h1 := h.2.2.1 hp
  have h2 := Rat.le_trans (av_nonneg _) h.2.2.2.2
  by_cases h0 : 0 ≤ d
  · exact h0
  · have := Rat.mul_lt_mul_of_pos_right (show d < 0 by grind) (show 0 < p by grind)
    grind
theorem rq_of {v p d f : Rat} {w : Nat} (h : Rnd single v w) (hp : 1 / 10000 ≤ p) (hp2 : p ≤ 2) (hv : av (v - p) ≤ d * p) (d0 : 0 ≤ d) (hd : d ≤ 1 / 1000) (hf : d + 1 / 8000000 ≤ f) : Rq f w p := by
  have h1 := Rat.le_trans (neg_le_av _) hv
  have h2 := Rat.le_trans (le_av _) hv
  have h3 := Rat.mul_le_mul_of_nonneg_right hd (show 0 ≤ p by grind)
  have v0 : 0 < v := by grind
  have hw := h.pos v0
  have hfin : Fnt single w := huge_bd (k := .f32) h (by rw [av_of_nonneg (by grind)]; exact Rat.le_trans (show v ≤ 3 by grind) (by decide +kernel))
  have hlt : w < 2139095040 := by
    have : rg single w < single.infRung := hfin
    rwa [rg_of_le single hw, s_inf] at this
  refine ⟨hlt, fun h0 => by grind, fun _ => hp, hp2, ?_⟩
  have E := err_s h hfin
  rw [av_of_nonneg (Rat.le_of_lt v0)] at E
  have A := av_add (sv single w - v) (v - p)
  rw [show sv single w - v + (v - p) = sv single w - p by grind] at A
  have c1 : es ≤ 1 / 8388608 := by decide +kernel
  have c2 : ts ≤ 1 / 100000000000000000000 := by decide +kernel
  have c3 : 0 ≤ es := by decide +kernel
  have m1 := Rat.mul_le_mul_of_nonneg_right (show v ≤ p + 1 / 1000 * p by grind) c3
  have m2 := Rat.mul_le_mul_of_nonneg_left c1 (show 0 ≤ p + 1 / 1000 * p by grind)
  have m3 := Rat.mul_le_mul_of_nonneg_right hf (show 0 ≤ p by grind)
  generalize es = a at *
  generalize ts = b at *
  generalize sv single w = s at *
  grind
theorem rq_add {d f : Rat} {x y : Nat} {p q : Rat} (hx : Rq d x p) (hy : Rq d y q) (hpq : p + q ≤ 2) (hd : d ≤ 1 / 1000) (hf : d + 1 / 8000000 ≤ f) : (floatBits .add .f32 x y).isSome = true ∧ Rq f (fA .add .f32 x y) (p + q) := by
  obtain ⟨w, h1, h2, _⟩ := add_spec (k_hf .f32) hx.fnt hy.fnt
  obtain ⟨a1, a2⟩ := fA_of (op := .add) (k := .f32) h1
  have n1 := hx.nn
  have n2 := hy.nn
  refine ⟨a1, ?_⟩
  by_cases h0 : p + q = 0
  · have e1 : p = 0 := by grind
    have e2 : q = 0 := by grind
    rw [hx.2.1 e1, hy.2.1 e2, h0, show fA .add .f32 0 0 = 0 by decide +kernel]
    exact Rq.zero f
  · rw [a2]
    have hp : 1 / 10000 ≤ p + q := by
      by_cases e1 : p = 0
      · have := hy.2.2.1 (by grind)
        grind
      · have := hx.2.2.1 e1
        grind
    have d0 : 0 ≤ d := by
      by_cases e1 : p = 0
      · exact hy.ge0 (by grind)
      · exact hx.ge0 e1
    refine rq_of h2 hp hpq ?_ d0 hd hf
    have A := av_add_le hx.2.2.2.2 hy.2.2.2.2
    rw [show FloatKind.f32.format = single from rfl]
    rw [show sv single x + sv single y - (p + q) = sv single x - p + (sv single y - q) by grind]
    grind
theorem fA_mul0 {x y : Nat} (hx : x < 2139095040) (hy : y < 2139095040) (h : x = 0 ∨ y = 0) : (floatBits .mul .f32 x y).isSome = true ∧ fA .mul .f32 x y = 0 := by
  have fx : Fnt single x := fin_of_lt single (by rw [s_inf]; exact hx)
  have fy : Fnt single y := fin_of_lt single (by rw [s_inf]; exact hy)
  obtain ⟨q, h1, h2⟩ := mul_spec (k_hf .f32) fx fy
  obtain ⟨a1, a2⟩ := fA_of (op := .mul) (k := .f32) h1
  refine ⟨a1, ?_⟩
  have sx : sg single x = false := sg_of_le single (by rw [s_inf]; omega)
  have sy : sg single y = false := sg_of_le single (by rw [s_inf]; omega)
  have hq : q = 0 := near_zero (f := single) (by
    rcases h with rfl | rfl
    · have : rv single (rg single 0) = 0 := by decide +kernel
      rw [show FloatKind.f32.format = single from rfl, this, Rat.zero_mul] at h2
      exact h2
    · have : rv single (rg single 0) = 0 := by decide +kernel
      rw [show FloatKind.f32.format = single from rfl, this, Rat.mul_zero] at h2
      exact h2)
  rw [a2, show FloatKind.f32.format = single from rfl, sx, sy, hq]
  decide
theorem mul_err {a b p q d e : Rat} (p0 : 0 ≤ p) (q0 : 0 ≤ q) (e0 : 0 ≤ e) (ha : av (a - p) ≤ d * p) (hb : av (b - q) ≤ e * q) : av (a * b - p * q) ≤ (d + e + d * e) * (p * q) := by
  have h1 := av_mul_le ha hb
  have h2 : av (p * (b - q)) ≤ p * (e * q) := av_mul_le (by rw [av_of_nonneg p0]; exact Rat.le_refl) hb
  have h3 : av ((a - p) * q) ≤ d * p * q := av_mul_le ha (by rw [av_of_nonneg q0]; exact Rat.le_refl)
  rw [show a * b - p * q = (a - p) * (b - q) + (p * (b - q) + (a - p) * q) by grind]
  refine Rat.le_trans (av_add_le h1 (av_add_le h2 h3)) ?_
  grind
theorem rq_mul {d e f : Rat} {x y : Nat} {p q : Rat} (hx : Rq d x p) (hy : Rq e y q) (h1 : p * q ≠ 0 → 1 / 10000 ≤ p * q) (h2 : p * q ≤ 2) (hd : d + e + d * e ≤ 1 / 1000) (hf : d + e + d * e + 1 / 8000000 ≤ f) : (floatBits .mul .f32 x y).isSome = true ∧ Rq f (fA .mul .f32 x y) (p * q) := by
  by_cases h0 : p * q = 0
  · have hz : x = 0 ∨ y = 0 := by
      rcases Rat.mul_eq_zero.1 h0 with h | h
      · exact .inl (hx.2.1 h)
      · exact .inr (hy.2.1 h)
    obtain ⟨a, b⟩ := fA_mul0 hx.1 hy.1 hz
    rw [b, h0]
    exact ⟨a, Rq.zero f⟩
  · have hp : p ≠ 0 := by rintro rfl; exact h0 (Rat.zero_mul _)
    have hq : q ≠ 0 := by rintro rfl; exact h0 (Rat.mul_zero _)
    obtain ⟨w, w1, w2⟩ := mul_rnd (k_hf .f32) hx.fnt hy.fnt
    obtain ⟨a1, a2⟩ := fA_of (op := .mul) (k := .f32) w1
    rw [a2]
    have d0 := hx.ge0 hp
    have e0 := hy.ge0 hq
    exact ⟨a1, rq_of w2 (h1 h0) h2 (mul_err hx.nn hy.nn e0 hx.2.2.2.2 hy.2.2.2.2) (by have := Rat.mul_nonneg d0 e0; grind) hd hf⟩
theorem fA_quo0 {y : Nat} (hy : y < 2139095040) (h0 : 0 < y) : (floatBits .quo .f32 0 y).isSome = true ∧ fA .quo .f32 0 y = 0 := by
  have fx : Fnt single 0 := by unfold Fnt; decide
  have fy : Fnt single y := fin_of_lt single (by rw [s_inf]; exact hy)
  have ry : rg single y = y := rg_of_le single (by rw [s_inf]; omega)
  obtain ⟨q, h1, h2⟩ := div_spec (k_hf .f32) fx fy (by rw [show FloatKind.f32.format = single from rfl, ry]; omega)
  obtain ⟨a1, a2⟩ := fA_of (op := .quo) (k := .f32) h1
  refine ⟨a1, ?_⟩
  have sx : sg single 0 = false := by decide
  have sy : sg single y = false := sg_of_le single (by rw [s_inf]; omega)
  have hq : q = 0 := near_zero (f := single) (by
    have : rv single (rg single 0) = 0 := by decide +kernel
    rw [show FloatKind.f32.format = single from rfl, this, Rat.div_def, Rat.zero_mul] at h2
    exact h2)
  rw [a2, show FloatKind.f32.format = single from rfl, sx, sy, hq]
  decide
theorem rq_div {d e f g : Rat} {x y : Nat} {p q : Rat} (hx : Rq d x p) (hy : Rq e y q) (hq : q ≠ 0) (h1 : p / q ≠ 0 → 1 / 10000 ≤ p / q) (h2 : p / q ≤ 2) (he : e ≤ 1 / 1000) (hg : d + e ≤ g * (1 - e)) (hd : g ≤ 1 / 1000) (hf : g + 1 / 8000000 ≤ f) : (floatBits .quo .f32 x y).isSome = true ∧ Rq f (fA .quo .f32 x y) (p / q) := by
  obtain ⟨y0, ys⟩ := hy.pos he hq
  by_cases h0 : p = 0
  · rw [hx.2.1 h0, h0]
    obtain ⟨a, b⟩ := fA_quo0 hy.1 y0
    rw [b, Rat.div_def, Rat.zero_mul]
    exact ⟨a, Rq.zero f⟩
  · have q1 := hy.2.2.1 hq
    have p1 := hx.2.2.1 h0
    have ry : rg single y = y := rg_of_le single (by rw [s_inf]; have := hy.1; omega)
    obtain ⟨w, w1, w2⟩ := div_rnd (k_hf .f32) hx.fnt hy.fnt (by rw [show FloatKind.f32.format = single from rfl, ry]; omega)
    obtain ⟨a1, a2⟩ := fA_of (op := .quo) (k := .f32) w1
    rw [a2]
    have hz : p / q ≠ 0 := by
      intro h
      have : p / q * q = p := Rat.div_mul_cancel hq
      rw [h, Rat.zero_mul] at this
      exact h0 this.symm
    have d0 := hx.ge0 h0
    have e0 := hy.ge0 hq
    refine ⟨a1, rq_of w2 (h1 hz) h2 ?_ ?_ hd hf⟩
    · have H1 := hx.2.2.2.2
      have H2 := hy.2.2.2.2
      rw [show FloatKind.f32.format = single from rfl]
      generalize sv single x = s at *
      generalize sv single y = t at *
      obtain ⟨r, hr⟩ : ∃ r, r = p / q := ⟨_, rfl⟩
      have r1 : r * q = p := by rw [hr]; exact Rat.div_mul_cancel hq
      obtain ⟨u, hu⟩ : ∃ u, u = s / t := ⟨_, rfl⟩
      have u1 : u * t = s := by rw [hu]; exact Rat.div_mul_cancel (by grind)
      rw [← hr] at h1 h2 hz ⊢
      rw [← hu]
      have r0 := h1 hz
      have B : av (r * (t - q)) ≤ r * (e * q) := av_mul_le (by rw [av_of_nonneg (by grind)]; exact Rat.le_refl) H2
      have C := av_sub_le H1 B
      rw [show s - p - r * (t - q) = (u - r) * t by grind] at C
      rw [av_mul] at C
      have tq := Rat.le_trans (neg_le_av _) H2
      have tl : (1 - e) * q ≤ av t := by rw [av_of_nonneg (Rat.le_of_lt ys)]; grind
      have D := Rat.mul_le_mul_of_nonneg_left tl (av_nonneg (u - r))
      have F := Rat.mul_le_mul_of_nonneg_right hg (show 0 ≤ r * q by grind)
      generalize av (u - r) = z at *
      have K : d * p + r * (e * q) = (d + e) * (r * q) := by rw [← r1]; grind
      have G : z * ((1 - e) * q) ≤ (g * r) * ((1 - e) * q) := Rat.le_trans D (Rat.le_trans C (by rw [K]; refine Rat.le_trans F ?_; grind))
      exact Rat.le_of_mul_le_mul_right G (Rat.mul_pos (by grind) (by grind))
    · have : 0 ≤ g * (1 - e) := by grind
      by_cases hc : 0 ≤ g
      · exact hc
      · have := Rat.mul_lt_mul_of_pos_right (show g < 0 by grind) (show 0 < 1 - e by grind)
        grind
/-- Bits of exact fractions, by the logarithm of two that the program writes. -/
noncomputable def Lb (p : Rat) : Rat := Ln p / lnC
theorem lnC_pos : 0 < lnC := by have := lnC_b.1; grind
theorem Lb_mul {x y : Rat} (hx : 0 < x) (hy : 0 < y) : av (Lb (x * y) - Lb x - Lb y) ≤ 1 / 1000000000000000 := by
  have A := Ln_mul hx hy
  unfold Lb
  rw [show Ln (x * y) / lnC - Ln x / lnC - Ln y / lnC = (Ln (x * y) - Ln x - Ln y) * lnC⁻¹ by rw [Rat.div_def, Rat.div_def, Rat.div_def]; grind]
  have B : av lnC⁻¹ ≤ 2 := by decide +kernel
  exact Rat.le_trans (av_mul_le A B) (by decide +kernel)
theorem Lb_one : Lb 1 = 0 := by unfold Lb; rw [Ln_one, Rat.div_def, Rat.zero_mul]
theorem Lb_of {a b c : Rat} (h : a - b ≤ c * lnC) : a / lnC - b / lnC ≤ c := by
  have h1 : (a / lnC) * lnC = a := Rat.div_mul_cancel (by have := lnC_pos; grind)
  have h2 : (b / lnC) * lnC = b := Rat.div_mul_cancel (by have := lnC_pos; grind)
  by_cases h3 : a / lnC - b / lnC ≤ c
  · exact h3
  · have := Rat.mul_lt_mul_of_pos_right (show c < a / lnC - b / lnC by grind) lnC_pos
    grind
theorem Ln_in {p : Rat} (h1 : 1 / 10000 ≤ p) (h2 : p ≤ 2) : av (Ln p) ≤ 19 / 2 := by
  have he : eta ≤ 1 / 1000000 := by decide +kernel
  have h4 := Ln_le (show 0 < p by grind)
  have h5 := Ln_mono (show (0 : Rat) < 1 / 16384 by decide +kernel) (show 1 / 16384 ≤ p by grind)
  have e := Ln_pow (x := 1) (by decide +kernel) (-14)
  rw [show (1 : Rat) * 2 ^ (-14 : Int) = 1 / 16384 by decide +kernel, Ln_one, show ((-14 : Int) : Rat) = -14 from rfl] at e
  have h6 := lg2_hi
  have h7 : (1 : Rat) / 10000 * (8192 / 8192) ≤ p := by grind
  by_cases hc : 1 / 8192 ≤ p
  · have h8 := Ln_mono (show (0 : Rat) < 1 / 8192 by decide +kernel) hc
    have e' := Ln_pow (x := 1) (by decide +kernel) (-13)
    rw [show (1 : Rat) * 2 ^ (-13 : Int) = 1 / 8192 by decide +kernel, Ln_one, show ((-13 : Int) : Rat) = -13 from rfl] at e'
    exact av_le (by grind) (by grind)
  · obtain ⟨z, hz⟩ : ∃ z, z = p * 2 ^ (13 : Int) := ⟨_, rfl⟩
    have hz2 : z = p * 8192 := by rw [hz, show (2 : Rat) ^ (13 : Int) = 8192 by decide +kernel]
    have e' := Ln_pow (x := p) (by grind) 13
    rw [← hz, show ((13 : Int) : Rat) = 13 from rfl] at e'
    obtain ⟨y, hy⟩ : ∃ y, z * y = 1 := ⟨1 / z, by rw [Rat.div_def, Rat.one_mul]; exact Rat.mul_inv_cancel _ (show z ≠ 0 by grind)⟩
    have y0 : 0 < y := by
      by_cases h : 0 < y
      · exact h
      · have := Rat.mul_le_mul_of_nonneg_left (show y ≤ 0 by grind) (show 0 ≤ z by grind)
        grind
    have y2 : y ≤ 10000 / 8192 := by
      by_cases h : y ≤ 10000 / 8192
      · exact h
      · have := Rat.mul_lt_mul_of_pos_left (show 10000 / 8192 < y by grind) (show 0 < z by grind)
        grind
    have A := Ln_mul (show 0 < z by grind) y0
    rw [hy, Ln_one] at A
    have A1 := Rat.le_trans (neg_le_av _) A
    have A2 := Rat.le_trans (le_av _) A
    have B := Ln_le y0
    exact av_le (by grind) (by grind)
theorem Lb_in {p : Rat} (h1 : 1 / 10000 ≤ p) (h2 : p ≤ 2) : av (Lb p) ≤ 14 := by
  unfold Lb
  rw [Rat.div_def]
  exact Rat.le_trans (av_mul_le (Ln_in h1 h2) (show av lnC⁻¹ ≤ 28 / 19 by decide +kernel)) (by decide +kernel)
/-- The bits of a word near p. -/
theorem rq_bits {d : Rat} {x : Nat} {p : Rat} (h : Rq d x p) (hp : p ≠ 0) (hd : d ≤ 1 / 1000) : Ap .f32 (enB x) (Lb p) (2 * d + 1 / 200000) := by
  obtain ⟨x0, xs⟩ := h.pos (by grind) hp
  have d0 := h.ge0 hp
  have h1 := h.2.2.1 hp
  have h2 := h.2.2.2.1
  obtain ⟨_, N⟩ := Ln_nearer (show 0 < p by grind) (show d ≤ 1 / 2 by grind) h.2.2.2.2
  have he : eta ≤ 1 / 1000000000000 := by decide +kernel
  have dd := Rat.mul_le_mul_of_nonneg_left hd d0
  have B1 : av (Ln (sv single x)) ≤ 96 / 10 := by
    have A := av_add (Ln (sv single x) - Ln p) (Ln p)
    rw [show Ln (sv single x) - Ln p + Ln p = Ln (sv single x) by grind] at A
    have := Ln_in h1 h2
    grind
  have L := lnF_ap x0 h.1 (E := 1 / 800000) B1 (by decide +kernel) (by decide +kernel)
  have T := enB_ap (E := 1 / 250000) L B1 (by decide +kernel) (by decide +kernel)
  refine T.move (u := Lb p) (d := 2 * d + 1 / 1000000) ?_ (by grind)
  unfold Lb
  rw [show Ln (sv single x) / lnC - Ln p / lnC = (Ln (sv single x) - Ln p) * lnC⁻¹ by rw [Rat.div_def, Rat.div_def]; grind]
  refine Rat.le_trans (av_mul_le N (show av lnC⁻¹ ≤ 3 / 2 by decide +kernel)) ?_
  grind
/-- A word times a word near bits. -/
theorem rq_times {d e f g B : Rat} {x y : Nat} {p u : Rat} (h : Rq d x p) (hy : Ap .f32 y u e) (hu : av u ≤ B) (B0 : 0 ≤ B) (B1 : B ≤ 100) (hd : d ≤ 1 / 1000) (he : e ≤ 1 / 100) (hp : p ≠ 0) (hg : (1 + d) * e + d * B + (B + 1) / 8000000 ≤ g) (hf : g * p ≤ f) : (floatBits .mul .f32 x y).isSome = true ∧ Ap .f32 (fA .mul .f32 x y) (p * u) f := by
  have p0 := h.2.2.1 hp
  have p2 := h.2.2.2.1
  have d0 := h.ge0 hp
  have e0 := hy.ge0
  have dp := Rat.mul_le_mul_of_nonneg_right hd (show 0 ≤ p by grind)
  have dp0 := Rat.mul_nonneg d0 (show 0 ≤ p by grind)
  have q1 := Rat.mul_le_mul_of_nonneg_left he dp0
  have q2 := Rat.mul_le_mul_of_nonneg_left he (show 0 ≤ p by grind)
  have q3 := Rat.mul_le_mul_of_nonneg_right dp B0
  have q4 := Rat.mul_le_mul_of_nonneg_left B1 (show 0 ≤ p by grind)
  have q5 := Rat.mul_nonneg dp0 B0
  have q6 := Rat.mul_nonneg (show 0 ≤ p by grind) B0
  have q7 := Rat.mul_nonneg dp0 e0
  have q8 := Rat.mul_nonneg (show 0 ≤ p by grind) e0
  have q9 := Rat.mul_le_mul_of_nonneg_right p2 B0
  have hh : (10000000 : Rat) ≤ huge .f32 := by decide +kernel
  have c1 : ulp .f32 ≤ 1 / 8388608 := by decide +kernel
  have c2 : tin .f32 ≤ 1 / 100000000000000000000 := by decide +kernel
  have c3 : 0 ≤ ulp .f32 := by decide +kernel
  have m2 := Rat.mul_le_mul_of_nonneg_left c1 (show 0 ≤ p * B + (d * p * (B + e) + p * e) by grind)
  have m3 := Rat.mul_le_mul_of_nonneg_right hg (show 0 ≤ p by grind)
  exact ap_mul (h.ap Rat.le_refl) hy (A := p) (by rw [av_of_nonneg h.nn]; exact Rat.le_refl) hu (by grind) (by
    generalize ulp .f32 = a at *
    generalize tin .f32 = b at *
    refine Rat.le_trans ?_ hf
    grind)

end Go.Proofs.Ytmocfnpbofeiiaa

/- Sums of words near exact fractions, rows and their entropies (plain). -/
namespace Go.Proofs.Ytmocfnpbofeiiaa
set_option linter.unusedSimpArgs false
set_option linter.unusedVariables false
open Ieee
open Go.RowKit
theorem nat_rat {k n : Nat} (h : k ≤ n) : (k : Rat) ≤ (n : Rat) := by exact_mod_cast h
theorem nat_rat0 (k : Nat) : (0 : Rat) ≤ (k : Rat) := by exact_mod_cast Nat.zero_le k
theorem nat_rat1 (k : Nat) : ((k + 1 : Nat) : Rat) = (k : Rat) + 1 := by rw [Rat.natCast_add]; rfl
/-- Sums in single precision of words near q. -/
theorem rq_sum {d : Rat} {w : Nat → Nat} {q : Nat → Rat} {m : Nat} (hm : m ≤ 64) (d0 : 0 ≤ d) (hd : d ≤ 1 / 100000) (h : ∀ k, k < m → Rq d (w k) (q k)) (hs : smN q m ≤ 2) :
    ∀ k, k ≤ m → Rq (d + (k : Rat) / 8000000) (flS w k) (smN q k) ∧ (k < m → (floatBits .add .f32 (flS w k) (w k)).isSome = true) := by
  have nn : ∀ i, i < m → 0 ≤ q i := fun i hi => (h i hi).nn
  have step : ∀ k, k < m → Rq (d + (k : Rat) / 8000000) (flS w k) (smN q k) → (floatBits .add .f32 (flS w k) (w k)).isSome = true ∧ Rq (d + ((k + 1 : Nat) : Rat) / 8000000) (flS w (k + 1)) (smN q (k + 1)) := by
    intro k hk ih
    have k0 := nat_rat0 k
    have k1 := nat_rat (show k ≤ 64 by omega)
    rw [show ((64 : Nat) : Rat) = 64 from rfl] at k1
    have hle := smN_mono nn (k + 1) hk
    simp only [smN] at hle ⊢
    refine rq_add ih ((h k hk).mono (by grind)) (Rat.le_trans hle hs) (by grind) ?_
    rw [nat_rat1]
    grind
  have all : ∀ k, k ≤ m → Rq (d + (k : Rat) / 8000000) (flS w k) (smN q k) := by
    intro k
    induction k with
    | zero => intro _; simp only [smN, flS]; exact Rq.zero _
    | succ k ih => intro hk; exact (step k (by omega) (ih (by omega))).2
  exact fun k hk => ⟨all k hk, fun h => (step k h (all k hk)).1⟩
/-- A row of exact fractions that come to one, and words near them. -/
structure Rw1 (d : Rat) (xs : List Nat) (n : Nat) (p : Nat → Rat) : Prop where
  len : xs.length = n
  n1 : 1 ≤ n
  n64 : n ≤ 64
  el : ∀ i, i < n → Rq d (xs[i]?.getD 0) (p i)
  one : smN p n = 1
section
variable {d : Rat} {xs : List Nat} {n : Nat} {p : Nat → Rat} (h : Rw1 d xs n p)
include h
theorem Rw1.mem {x : Nat} (hx : x ∈ xs) : ∃ i, i < n ∧ xs[i]?.getD 0 = x := by
  obtain ⟨i, hi, rfl⟩ := List.mem_iff_getElem.1 hx
  exact ⟨i, by rw [← h.len]; exact hi, by rw [List.getElem?_eq_getElem hi]; rfl⟩
theorem Rw1.lt : ∀ x ∈ xs, x < 2139095040 := fun x hx => by
  obtain ⟨i, hi, rfl⟩ := h.mem hx
  exact (h.el i hi).1
theorem Rw1.lt32 : ∀ x ∈ xs, x < 4294967296 := fun x hx => by have := h.lt x hx; omega
theorem Rw1.le1 {i : Nat} (hi : i < n) : 0 ≤ p i ∧ p i ≤ 1 := by
  refine ⟨(h.el i hi).nn, ?_⟩
  have key : ∀ k, k ≤ n → ∀ i, i < k → p i ≤ smN p k := by
    intro k
    induction k with
    | zero => intro _ i hi; omega
    | succ k ih =>
      intro hk i hi
      have h1 := smN_nonneg (f := p) k (fun j hj => (h.el j (by omega)).nn)
      have h2 := (h.el k (by omega)).nn
      simp only [smN]
      by_cases hik : i = k
      · rw [hik]; grind
      · have := ih (by omega) i (by omega); grind
  rw [← h.one]
  exact key n (Nat.le_refl _) i hi
variable (d0 : 0 ≤ d) (hd : d ≤ 1 / 100000)
include d0 hd
theorem Rw1.sum : Rq (d + (n : Rat) / 8000000) (fsum xs) 1 := by
  have e := fsum_fl xs n (by rw [h.len]; exact Nat.le_refl _)
  rw [List.take_of_length_le (by rw [h.len]; exact Nat.le_refl _)] at e
  rw [e, ← h.one]
  exact (rq_sum h.n64 d0 hd h.el (by rw [h.one]; decide +kernel) n (Nat.le_refl _)).1
theorem Rw1.isOne : oneB xs = true := by
  have hall : xs.all chB = true := by
    rw [List.all_eq_true]
    intro x hx
    have := h.lt x hx
    unfold chB
    exact decide_eq_true (.inl (by omega))
  have k1 := nat_rat h.n64
  rw [show ((64 : Nat) : Rat) = 64 from rfl] at k1
  have S := (h.sum d0 hd).ap (e := 1 / 10000) (by grind)
  unfold oneB
  rw [hall, near_of S (by decide +kernel) Rat.le_refl]
  rfl
theorem Rw1.row (hn : n ≤ 32) : rowB xs = true := by
  unfold rowB
  rw [h.isOne d0 hd, h.len, decide_eq_true h.n1, decide_eq_true hn]
  rfl
omit d0 in
theorem Rw1.en : ∀ x ∈ xs, En x := fun x hx => by
  obtain ⟨i, hi, rfl⟩ := h.mem hx
  refine ⟨.inl (h.el i hi).1, ?_⟩
  have A := (h.el i hi).2.2.2.2
  have B := h.le1 hi
  have C := Rat.mul_le_mul_of_nonneg_right hd B.1
  have D := av_add (sv single (xs[i]?.getD 0) - p i) (p i)
  rw [show sv single (xs[i]?.getD 0) - p i + p i = sv single (xs[i]?.getD 0) by grind, av_of_nonneg B.1] at D
  show av (sv single (xs[i]?.getD 0)) ≤ pv 1 ((1 : Nat) : Int)
  rw [show pv 1 ((1 : Nat) : Int) = 2 by decide +kernel]
  grind
end
/-- One more term of a sum of bits. -/
theorem acc_step {S t : Nat} {v u e f : Rat} (hS : Ap .f32 S v e) (ht : Ap .f32 t u f) (hA : av (v + u) ≤ 44) (hef : e + f ≤ 1 / 100) : (floatBits .add .f32 S t).isSome = true ∧ Ap .f32 (fA .add .f32 S t) (v + u) (e + f + 1 / 180000) := by
  have c1 : ulp .f32 ≤ 1 / 8388608 := by decide +kernel
  have c2 : tin .f32 ≤ 1 / 100000000000000000000 := by decide +kernel
  have c3 : 0 ≤ ulp .f32 := by decide +kernel
  have hh : (10000000 : Rat) ≤ huge .f32 := by decide +kernel
  have e0 := hS.ge0
  have f0 := ht.ge0
  have m2 := Rat.mul_le_mul_of_nonneg_left c1 (show 0 ≤ 44 + (e + f) by grind)
  exact ap_add hS ht hA (by grind) (by grind)
/-- A term of an entropy. -/
theorem rq_term {d : Rat} {x : Nat} {p : Rat} (h : Rq d x p) (hp : p ≠ 0) (hp1 : p ≤ 1) (hd : d ≤ 1 / 100000) : Ap .f32 (enT x) (p * Lb p) ((17 * d + 1 / 140000) * p) ∧ av (p * Lb p) ≤ 14 * p := by
  have d0 := h.ge0 hp
  have p0 := h.2.2.1 hp
  have B := Lb_in p0 h.2.2.2.1
  have dd := Rat.mul_le_mul_of_nonneg_left hd d0
  refine ⟨(rq_times (f := (17 * d + 1 / 140000) * p) h (rq_bits h hp (by grind)) B (by decide +kernel) (by decide +kernel) (by grind) (by grind) hp (g := 17 * d + 1 / 140000) (by grind) Rat.le_refl).2, ?_⟩
  have := av_mul_le (show av p ≤ p by rw [av_of_nonneg h.nn]; exact Rat.le_refl) B
  grind
theorem mod_zero {x : Nat} (h : x < 2139095040) : x % 2147483648 = 0 ↔ x = 0 := by omega
section
variable {d : Rat} {xs : List Nat} {n : Nat} {p : Nat → Rat} (h : Rw1 d xs n p) (d0 : 0 ≤ d) (hd : d ≤ 1 / 100000)
include h d0 hd
theorem Rw1.enS : ∀ k, k ≤ n → Ap .f32 (enS (xs.take k)) (smN (fun i => p i * Lb (p i)) k) ((17 * d + 1 / 140000) * smN p k + (k : Rat) / 180000) ∧ av (smN (fun i => p i * Lb (p i)) k) ≤ 14 * smN p k := by
  intro k
  induction k with
  | zero =>
    intro _
    simp only [smN, List.take_zero]
    refine ⟨?_, by decide +kernel⟩
    rw [show (17 * d + 1 / 140000) * 0 + ((0 : Nat) : Rat) / 180000 = 0 by rw [show ((0 : Nat) : Rat) = 0 from rfl]; grind]
    exact zero_ap
  | succ k ih =>
    intro hk
    obtain ⟨i1, i2⟩ := ih (by omega)
    have R := h.el k (by omega)
    have P := h.le1 (show k < n by omega)
    have nn : ∀ i, i < n → 0 ≤ p i := fun i hi => (h.el i hi).nn
    have s1 := smN_mono nn (k + 1) hk
    have s0 := smN_nonneg (f := p) k (fun j hj => nn j (by omega))
    rw [h.one] at s1
    rw [enS_take_succ xs k (by rw [h.len]; omega), nat_rat1]
    simp only [smN] at s1 ⊢
    unfold enA
    have k0 := nat_rat0 k
    have k1 := nat_rat (show k ≤ 64 by have := h.n64; omega)
    rw [show ((64 : Nat) : Rat) = 64 from rfl] at k1
    have hc : (17 * d + 1 / 140000) * (smN p k + p k) ≤ (17 * d + 1 / 140000) * 1 := Rat.mul_le_mul_of_nonneg_left s1 (by grind)
    by_cases h0 : p k = 0
    · rw [if_pos ((mod_zero R.1).2 (R.2.1 h0)), h0]
      rw [Rat.zero_mul, Rat.add_zero, Rat.add_zero]
      exact ⟨i1.mono (by grind), i2⟩
    · rw [if_neg (fun hc => h0 ((R.nil (by grind)).1 ((mod_zero R.1).1 hc)))]
      obtain ⟨t1, t2⟩ := rq_term R h0 P.2 hd
      have A := av_add_le i2 t2
      refine ⟨(acc_step i1 t1 (Rat.le_trans A (by grind)) (by grind)).2.mono (by grind), Rat.le_trans A (by grind)⟩
end
/-- The exact entropy. -/
noncomputable def Hx (p : Nat → Rat) (n : Nat) : Rat := 0 - smN (fun i => p i * Lb (p i)) n
theorem Rw1.ent {d E : Rat} {xs : List Nat} {n : Nat} {p : Nat → Rat} (h : Rw1 d xs n p) (d0 : 0 ≤ d) (hd : d ≤ 1 / 100000) (hE : 17 * d + 1 / 140000 + ((n : Rat) + 1) / 180000 ≤ E) : (floatBits .sub .f32 0 (Go.Proofs.Ytmocfnpbofeiiaa.enS xs)).isSome = true ∧ Ap .f32 (entF xs) (Hx p n) E ∧ av (Hx p n) ≤ 14 := by
  obtain ⟨a, b⟩ := h.enS d0 hd n (Nat.le_refl _)
  rw [List.take_of_length_le (by rw [h.len]; exact Nat.le_refl _), h.one] at a
  rw [h.one] at b
  have k0 := nat_rat0 n
  have k1 := nat_rat h.n64
  rw [show ((64 : Nat) : Rat) = 64 from rfl] at k1
  have hB : av (Hx p n) ≤ 14 := by
    unfold Hx
    rw [show ∀ z : Rat, 0 - z = -z from fun z => by grind, av_neg]
    grind
  have c1 : ulp .f32 ≤ 1 / 8388608 := by decide +kernel
  have c2 : tin .f32 ≤ 1 / 100000000000000000000 := by decide +kernel
  have hh : (10000000 : Rat) ≤ huge .f32 := by decide +kernel
  have m2 := Rat.mul_le_mul_of_nonneg_left c1 (show 0 ≤ 14 + (0 + ((17 * d + 1 / 140000) * 1 + (n : Rat) / 180000)) by grind)
  obtain ⟨e1, e2⟩ := ap_sub (k := .f32) (E := E) zero_ap a hB (by grind) (by grind)
  exact ⟨e1, e2, hB⟩

end Go.Proofs.Ytmocfnpbofeiiaa
