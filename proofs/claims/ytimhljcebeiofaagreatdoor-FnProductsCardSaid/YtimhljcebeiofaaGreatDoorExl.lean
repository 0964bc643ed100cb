/- The exponential function's plain part: what is reckoned stays within bounds. -/
import Derived.Test.YtimhljcebeiofaaGreatDoorLnp
namespace Go.Proofs.YtimhljcebeiofaaGreatDoor
set_option linter.unusedSimpArgs false
set_option linter.unusedVariables false
open Ieee

theorem av_le {v c : Rat} (h1 : v ≤ c) (h2 : -c ≤ v) : av v ≤ c := by unfold av; split <;> grind
theorem near_zero {f : Format} {q : Nat} (h : Near f 0 q) : q = 0 := by
  have := h.le (s := 0) (by rw [rv_zero]; exact Rat.le_refl)
  omega
theorem rnd_zero {f : Format} {v : Rat} {w : Nat} (h : Rnd f v w) (hv : v = 0) : rg f w = 0 := by
  have := h.le (K := 0) (by rw [hv, rv_zero]; decide)
  omega
theorem sv_sg {f : Format} {w : Nat} {s : Bool} (h : sg f w = s) : sv f w = if s then -rv f (rg f w) else rv f (rg f w) := by unfold sv; rw [h]
theorem Rnd.sgn {f : Format} {v : Rat} {w : Nat} (h : Rnd f v w) : (0 < v → sg f w = false) ∧ (v < 0 → sg f w = true) := by
  obtain ⟨s, q, rfl, _, h1, h2⟩ := h
  rw [sg_word f s (Nat.min_le_right ..)]
  exact ⟨h1, h2⟩
theorem sv_rg0 {f : Format} {w : Nat} (h : rg f w = 0) : sv f w = 0 := by
  unfold sv; rw [h, rv_zero]; split <;> decide
/-- Rounding keeps to a bound that is a word. -/
theorem rnd_le {f : Format} {v c : Rat} {w : Nat} (K : Nat) (h : Rnd f v w) (hK : rv f K = c) (hv : v ≤ c) : sv f w ≤ c := by
  have hc : 0 ≤ c := by rw [← hK]; exact rv_nonneg _ _
  by_cases h0 : 0 < v
  · rw [sv_sg (h.sgn.1 h0)]
    have := h.le (K := K) (by rw [av_of_nonneg (by grind), hK]; exact hv)
    simp only [Bool.false_eq_true, if_false]
    rw [← hK]; exact rv_le _ this
  · by_cases h1 : v < 0
    · rw [sv_sg (h.sgn.2 h1)]
      have := rv_nonneg f (rg f w)
      simp only [if_true]; grind
    · rw [sv_rg0 (rnd_zero h (by grind))]; exact hc
theorem rnd_ge {f : Format} {v c : Rat} {w : Nat} (K : Nat) (h : Rnd f v w) (hK : rv f K = c) (hv : -c ≤ v) : -c ≤ sv f w := by
  have hc : 0 ≤ c := by rw [← hK]; exact rv_nonneg _ _
  by_cases h0 : v < 0
  · rw [sv_sg (h.sgn.2 h0)]
    have := h.le (K := K) (by rw [hK]; exact av_le (by grind) hv)
    simp only [if_true]
    have := rv_le f this
    rw [hK] at this; grind
  · by_cases h1 : 0 < v
    · rw [sv_sg (h.sgn.1 h1)]
      have := rv_nonneg f (rg f w)
      simp only [Bool.false_eq_true, if_false]; grind
    · rw [sv_rg0 (rnd_zero h (by grind))]; grind
theorem rnd_ge0 {f : Format} {v : Rat} {w : Nat} (h : Rnd f v w) (hv : 0 ≤ v) : 0 ≤ sv f w := by
  have := rnd_ge (c := 0) 0 h (rv_zero f) (by grind)
  grind
theorem rnd_gep {f : Format} {v c : Rat} {w : Nat} (K : Nat) (h : Rnd f v w) (hi : K ≤ f.infRung) (hK : rv f K = c) (hc : 0 < c) (hv : c ≤ v) : c ≤ sv f w := by
  have h0 : 0 < v := by grind
  rw [sv_sg (h.sgn.1 h0)]
  have := h.ge hi (by rw [hK, av_of_nonneg (by grind)]; exact hv)
  simp only [Bool.false_eq_true, if_false]
  rw [← hK]; exact rv_le _ this

/-- A double word's value. -/
theorem rv_dd (t k : Nat) (h1 : 4503599627370496 ≤ k) (h2 : k ≤ 9007199254740992) : rv double (t * 4503599627370496 + k) = pv k (-1074 + t) := by
  have := rv_at double t k (.inr ⟨by rw [d_bin]; exact h1, by rw [d_bin]; omega⟩)
  rw [d_bin] at this
  rw [this]; rfl
theorem rv_1_64 : rv double 4580160821035794432 = 1 / 64 := by
  rw [show (4580160821035794432 : Nat) = 1016 * 4503599627370496 + 4503599627370496 by omega, rv_dd _ _ (by omega) (by omega)]; decide +kernel
theorem rv_1_32 : rv double 4584664420663164928 = 1 / 32 := by
  rw [show (4584664420663164928 : Nat) = 1017 * 4503599627370496 + 4503599627370496 by omega, rv_dd _ _ (by omega) (by omega)]; decide +kernel
theorem rv_1_2 : rv double 4602678819172646912 = 1 / 2 := by
  rw [show (4602678819172646912 : Nat) = 1021 * 4503599627370496 + 4503599627370496 by omega, rv_dd _ _ (by omega) (by omega)]; decide +kernel
theorem rv_25_32 : rv double 4605212093963042816 = 25 / 32 := by
  rw [show (4605212093963042816 : Nat) = 1021 * 4503599627370496 + 7036874417766400 by omega, rv_dd _ _ (by omega) (by omega)]; decide +kernel
theorem rv_33_32 : rv double 4607323156288372736 = 33 / 32 := by
  rw [show (4607323156288372736 : Nat) = 1022 * 4503599627370496 + 4644337115725824 by omega, rv_dd _ _ (by omega) (by omega)]; decide +kernel
theorem rv_9_8 : rv double 4607745368753438720 = 9 / 8 := by
  rw [show (4607745368753438720 : Nat) = 1022 * 4503599627370496 + 5066549580791808 by omega, rv_dd _ _ (by omega) (by omega)]; decide +kernel
theorem rv_21_16 : rv double 4608589793683570688 = 21 / 16 := by
  rw [show (4608589793683570688 : Nat) = 1022 * 4503599627370496 + 5910974510923776 by omega, rv_dd _ _ (by omega) (by omega)]; decide +kernel
theorem rv_4 : rv double 4616189618054758400 = 4 := by
  rw [show (4616189618054758400 : Nat) = 1024 * 4503599627370496 + 4503599627370496 by omega, rv_dd _ _ (by omega) (by omega)]; decide +kernel
theorem rv_1 : rv double 4607182418800017408 = 1 := by
  rw [show (4607182418800017408 : Nat) = 1022 * 4503599627370496 + 4503599627370496 by omega, rv_dd _ _ (by omega) (by omega)]; decide +kernel
theorem rv_2 : rv double 4611686018427387904 = 2 := rv_d2
theorem sv_256 : sv double 4643211215818981376 = 256 := by
  rw [sv_of_le double (by rw [d_inf]; omega), show (4643211215818981376 : Nat) = 1030 * 4503599627370496 + 4503599627370496 by omega, rv_dd _ _ (by omega) (by omega)]; decide +kernel

/-- Between bounds, in a format. -/
def Bt (k : FloatKind) (lo hi : Rat) (x : Nat) : Prop := Fnt k.format x ∧ lo ≤ sv k.format x ∧ sv k.format x ≤ hi
theorem Bt.bd {k : FloatKind} {lo hi : Rat} {x : Nat} (h : Bt k lo hi x) (e : Nat) (h1 : hi ≤ pv 1 e) (h2 : -pv 1 e ≤ lo) : Bd k e x := av_le (by have := h.2.2; grind) (by have := h.2.1; grind)
theorem p1_0 : pv 1 ((0 : Nat) : Int) = 1 := by decide +kernel
theorem p1_1 : pv 1 ((1 : Nat) : Int) = 2 := by decide +kernel

def exT (X : Nat) : Nat := fA .quo .f64 X 4643211215818981376
def exP (t : Nat) : Nat → Nat
  | 0 => 4607182418800017408
  | j + 1 => fA .add .f64 4607182418800017408 (fA .quo .f64 (fA .mul .f64 t (exP t j)) (floatOfInt .f64 (12 - (j : Int))))
def exS (p : Nat) : Nat → Nat
  | 0 => p
  | j + 1 => fA .mul .f64 (exS p j) (exS p j)
def exW (X : Nat) : Nat := exS (exP (exT X) 12) 8

theorem ex_t {X : Nat} (h : Bt .f64 (-200) 4 X) : (floatBits .quo .f64 X 4643211215818981376).isSome = true ∧ Bt .f64 (-(25 / 32)) (1 / 64) (exT X) := by
  have p8 : pv 1 ((8 : Nat) : Int) = 256 := by decide +kernel
  have hb : Bd .f64 8 X := h.bd 8 (by rw [p8]; decide +kernel) (by rw [p8]; decide +kernel)
  obtain ⟨a1, a2, a3⟩ := bd_div (k := .f64) (y := 4643211215818981376) hb (fin_of_lt double (by rw [d_inf]; omega)) (by rw [show FloatKind.f64.format = double from rfl, sv_256]; decide +kernel) (by decide)
  rw [show FloatKind.f64.format = double from rfl, sv_256] at a3
  have h1 := h.2.1
  have h2 := h.2.2
  rw [show FloatKind.f64.format = double from rfl] at h1 h2
  refine ⟨a1, a2.fnt (by decide), rnd_ge 4605212093963042816 a3 rv_25_32 ?_, rnd_le 4580160821035794432 a3 rv_1_64 ?_⟩
  · grind
  · grind
theorem foi_12 : ∀ j : Nat, j < 12 → Fnt double (floatOfInt .f64 (12 - (j : Int))) ∧ 4607182418800017408 ≤ floatOfInt .f64 (12 - (j : Int)) ∧ floatOfInt .f64 (12 - (j : Int)) < 9218868437227405312 := by
  have h : ∀ j : Nat, j < 12 → rg double (floatOfInt .f64 (12 - (j : Int))) < double.infRung ∧ 4607182418800017408 ≤ floatOfInt .f64 (12 - (j : Int)) ∧ floatOfInt .f64 (12 - (j : Int)) < 9218868437227405312 := by decide +kernel
  exact h
theorem div_between {v k lo hi : Rat} (hk : 1 ≤ k) (h1 : lo ≤ v) (h2 : v ≤ hi) (hl : lo ≤ 0) (hh : 0 ≤ hi) : lo ≤ v / k ∧ v / k ≤ hi := by
  have hk0 : k ≠ 0 := by grind
  have e : v / k * k = v := Rat.div_mul_cancel hk0
  generalize v / k = d at e
  constructor
  · by_cases hd : d < 0
    · have := Rat.mul_le_mul_of_nonneg_left hk (show 0 ≤ -d by grind)
      grind
    · grind
  · by_cases hd : 0 < d
    · have := Rat.mul_le_mul_of_nonneg_left hk (show 0 ≤ d by grind)
      grind
    · grind
theorem mul_between {t p : Rat} (t1 : -(25 / 32) ≤ t) (t2 : t ≤ 1 / 64) (p1 : 0 ≤ p) (p2 : p ≤ 33 / 32) : -1 ≤ t * p ∧ t * p ≤ 1 / 32 := by
  have h1 := Rat.mul_le_mul_of_nonneg_right t1 p1
  have h2 := Rat.mul_le_mul_of_nonneg_right t2 p1
  constructor <;> grind
theorem ex_step {t p : Nat} (ht : Bt .f64 (-(25 / 32)) (1 / 64) t) (hp : Bt .f64 0 (33 / 32) p) {j : Nat} (hj : j < 12) :
    (floatBits .mul .f64 t p).isSome = true ∧ (floatBits .quo .f64 (fA .mul .f64 t p) (floatOfInt .f64 (12 - (j : Int)))).isSome = true ∧
    (floatBits .add .f64 4607182418800017408 (fA .quo .f64 (fA .mul .f64 t p) (floatOfInt .f64 (12 - (j : Int))))).isSome = true ∧
    Bt .f64 0 (33 / 32) (fA .add .f64 4607182418800017408 (fA .quo .f64 (fA .mul .f64 t p) (floatOfInt .f64 (12 - (j : Int))))) := by
  have tb : Bd .f64 0 t := ht.bd 0 (by rw [p1_0]; decide +kernel) (by rw [p1_0]; decide +kernel)
  have pb : Bd .f64 1 p := hp.bd 1 (by rw [p1_1]; decide +kernel) (by rw [p1_1]; decide +kernel)
  obtain ⟨a1, a2, a3⟩ := bd_mul tb pb (by decide) (by decide)
  obtain ⟨t0, t1, t2⟩ := ht
  obtain ⟨q0, q1, q2⟩ := hp
  rw [show FloatKind.f64.format = double from rfl] at a3 t1 t2 q1 q2
  obtain ⟨m1, m2⟩ := mul_between t1 t2 q1 q2
  have v1 := rnd_ge 4607182418800017408 a3 rv_1 m1
  have v2 := rnd_le 4584664420663164928 a3 rv_1_32 m2
  obtain ⟨k0, k1, k2⟩ := foi_12 j hj
  have hk : 1 ≤ sv double (floatOfInt .f64 (12 - (j : Int))) := by
    rw [sv_of_le double (by rw [d_inf]; omega), ← rv_1]
    exact rv_le _ k1
  obtain ⟨b1, b2, b3⟩ := bd_div (k := .f64) (e := 1) (y := floatOfInt .f64 (12 - (j : Int))) (a2.mono (by decide)) k0 (by rw [show FloatKind.f64.format = double from rfl, av_of_nonneg (by grind)]; exact hk) (by decide)
  rw [show FloatKind.f64.format = double from rfl] at b3
  obtain ⟨d1, d2⟩ := div_between hk v1 v2 (by decide +kernel) (by decide +kernel)
  have w1 := rnd_ge 4607182418800017408 b3 rv_1 d1
  have w2 := rnd_le 4584664420663164928 b3 rv_1_32 d2
  obtain ⟨c1, c2, c3⟩ := bd_add (bd_one.mono (Nat.zero_le 1)) b2 (by decide)
  rw [show FloatKind.f64.format = double from rfl, sv_one] at c3
  refine ⟨a1, b1, c1, c2.fnt (by decide), rnd_ge0 c3 ?_, rnd_le 4607323156288372736 c3 rv_33_32 ?_⟩
  · grind
  · grind
theorem ex_p0 : Bt .f64 0 (33 / 32) 4607182418800017408 := ⟨fin_of_lt double (by rw [d_inf]; omega), by rw [show FloatKind.f64.format = double from rfl, sv_one]; decide +kernel, by rw [show FloatKind.f64.format = double from rfl, sv_one]; decide +kernel⟩
theorem exP_bt {t : Nat} (ht : Bt .f64 (-(25 / 32)) (1 / 64) t) : ∀ j, j ≤ 12 → Bt .f64 0 (33 / 32) (exP t j) := by
  intro j
  induction j with
  | zero => intro _; exact ex_p0
  | succ j ih => intro hj; exact (ex_step ht (ih (by omega)) (by omega)).2.2.2
theorem sq_step {e : Nat} {p : Nat} (hp : Bt .f64 0 (pv 1 e) p) (he : e ≤ 1023) : (floatBits .mul .f64 p p).isSome = true ∧ (2 * e ≤ 1023 → Bt .f64 0 (pv 1 ((2 * e : Nat) : Int)) (fA .mul .f64 p p)) := by
  have pb : Bd .f64 e p := hp.bd e (Rat.le_refl) (by have := pv_nonneg 1 e; grind)
  obtain ⟨a1, a2, a3⟩ := bd_mul pb pb he he
  refine ⟨a1, fun h2 => ?_⟩
  rw [← Nat.two_mul] at a2
  refine ⟨a2.fnt h2, rnd_ge0 a3 (Rat.mul_nonneg hp.2.1 hp.2.1), ?_⟩
  have h3 : av (sv double (fA .mul .f64 p p)) ≤ pv 1 ((2 * e : Nat) : Int) := a2
  have h4 : sv double (fA .mul .f64 p p) ≤ av (sv double (fA .mul .f64 p p)) := by unfold av; split <;> grind
  exact Rat.le_trans h4 h3
theorem sq_low {p K : Nat} {c d : Rat} (hp : Bt .f64 0 c p) (hc : c ≤ 2) (hcd : c * c ≤ d) (hK : rv double K = d) : (floatBits .mul .f64 p p).isSome = true ∧ Bt .f64 0 d (fA .mul .f64 p p) := by
  have pb : Bd .f64 1 p := hp.bd 1 (by rw [p1_1]; exact hc) (by rw [p1_1]; decide +kernel)
  obtain ⟨a1, a2, a3⟩ := bd_mul pb pb (by decide) (by decide)
  obtain ⟨q0, q1, q2⟩ := hp
  rw [show FloatKind.f64.format = double from rfl] at a3 q1 q2
  have h1 := Rat.mul_le_mul_of_nonneg_right q2 q1
  have h2 := Rat.mul_le_mul_of_nonneg_left q2 (show 0 ≤ c by grind)
  exact ⟨a1, a2.fnt (by decide), rnd_ge0 a3 (Rat.mul_nonneg q1 q1), rnd_le K a3 hK (by grind)⟩
theorem exS_all {p : Nat} (hp : Bt .f64 0 (33 / 32) p) : (∀ j, j < 8 → (floatBits .mul .f64 (exS p j) (exS p j)).isSome = true) ∧ Bt .f64 0 (pv 1 ((32 : Nat) : Int)) (exS p 8) := by
  obtain ⟨a0, b0⟩ := sq_low hp (by decide +kernel) (show (33 / 32 * (33 / 32) : Rat) ≤ 9 / 8 by decide +kernel) rv_9_8
  obtain ⟨a1, b1⟩ := sq_low b0 (by decide +kernel) (show (9 / 8 * (9 / 8) : Rat) ≤ 21 / 16 by decide +kernel) rv_21_16
  obtain ⟨a2, b2⟩ := sq_low b1 (by decide +kernel) (show (21 / 16 * (21 / 16) : Rat) ≤ 2 by decide +kernel) rv_2
  rw [← p1_1] at b2
  obtain ⟨a3, b3⟩ := sq_step b2 (by decide)
  have b3 := b3 (by decide)
  obtain ⟨a4, b4⟩ := sq_step b3 (by decide)
  have b4 := b4 (by decide)
  obtain ⟨a5, b5⟩ := sq_step b4 (by decide)
  have b5 := b5 (by decide)
  obtain ⟨a6, b6⟩ := sq_step b5 (by decide)
  have b6 := b6 (by decide)
  obtain ⟨a7, b7⟩ := sq_step b6 (by decide)
  have b7 := b7 (by decide)
  refine ⟨fun j hj => ?_, b7⟩
  match j, hj with
  | 0, _ => exact a0
  | 1, _ => exact a1
  | 2, _ => exact a2
  | 3, _ => exact a3
  | 4, _ => exact a4
  | 5, _ => exact a5
  | 6, _ => exact a6
  | 7, _ => exact a7
theorem exW_bt {X : Nat} (h : Bt .f64 (-200) 4 X) : Bt .f64 0 (pv 1 ((32 : Nat) : Int)) (exW X) := (exS_all (exP_bt (ex_t h).2 12 (by omega))).2

end Go.Proofs.YtimhljcebeiofaaGreatDoor
