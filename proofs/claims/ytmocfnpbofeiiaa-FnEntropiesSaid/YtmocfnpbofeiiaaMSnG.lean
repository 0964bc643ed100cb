/- The row of the exponential function in exact fractions: its logarithm is its argument, nearly. Plain: no program. -/
import Derived.Test.YtmocfnpbofeiiaaMSu32
import Derived.Test.YtmocfnpbofeiiaaMCct
namespace Go.Proofs.Ytmocfnpbofeiiaa
set_option linter.unusedSimpArgs false
set_option linter.unusedVariables false
open Ieee

def e11 (t : Rat) : Rat := 1 + t + t ^ 2 / 2 + t ^ 3 / 6 + t ^ 4 / 24 + t ^ 5 / 120 + t ^ 6 / 720 + t ^ 7 / 5040 + t ^ 8 / 40320 + t ^ 9 / 362880 + t ^ 10 / 3628800 + t ^ 11 / 39916800
def e12 (t : Rat) : Rat := e11 t + t ^ 12 / 479001600
theorem e12_zero : e12 0 = 1 := by decide +kernel
theorem pwD_two {t u : Rat} (ht : av t ≤ 1 / 5) (hu : av u ≤ 1 / 5) (m : Nat) : u ^ (m + 1) - t ^ (m + 1) - ((m + 1 : Nat) : Rat) * t ^ m * (u - t) ≤ (u - t) * (u - t) ∧ -(u ^ (m + 1) - t ^ (m + 1) - ((m + 1 : Nat) : Rat) * t ^ m * (u - t)) ≤ (u - t) * (u - t) := by
  have h := pwD_le ht hu m
  unfold pwD at h
  exact ⟨Rat.le_trans (le_av _) h, Rat.le_trans (neg_le_av _) h⟩
theorem e12_step {t u : Rat} (ht : av t ≤ 1 / 5) (hu : av u ≤ 1 / 5) : av (e12 u - e12 t - e11 t * (u - t)) ≤ (u - t) * (u - t) := by
  have h1 := pwD_two ht hu 1
  have h2 := pwD_two ht hu 2
  have h3 := pwD_two ht hu 3
  have h4 := pwD_two ht hu 4
  have h5 := pwD_two ht hu 5
  have h6 := pwD_two ht hu 6
  have h7 := pwD_two ht hu 7
  have h8 := pwD_two ht hu 8
  have h9 := pwD_two ht hu 9
  have h10 := pwD_two ht hu 10
  have h11 := pwD_two ht hu 11
  have hd := sq_nonneg (u - t)
  simp only [Nat.reduceAdd, show ((2 : Nat) : Rat) = 2 from rfl, show ((3 : Nat) : Rat) = 3 from rfl, show ((4 : Nat) : Rat) = 4 from rfl, show ((5 : Nat) : Rat) = 5 from rfl, show ((6 : Nat) : Rat) = 6 from rfl, show ((7 : Nat) : Rat) = 7 from rfl, show ((8 : Nat) : Rat) = 8 from rfl, show ((9 : Nat) : Rat) = 9 from rfl, show ((10 : Nat) : Rat) = 10 from rfl, show ((11 : Nat) : Rat) = 11 from rfl, show ((12 : Nat) : Rat) = 12 from rfl] at h1 h2 h3 h4 h5 h6 h7 h8 h9 h10 h11
  have key : ∃ r1 r2 r3 r4 r5 r6 r7 r8 r9 r10 r11 : Rat, e12 u - e12 t - e11 t * (u - t) = r1 / 2 + r2 / 6 + r3 / 24 + r4 / 120 + r5 / 720 + r6 / 5040 + r7 / 40320 + r8 / 362880 + r9 / 3628800 + r10 / 39916800 + r11 / 479001600 ∧
      (r1 ≤ (u - t) * (u - t) ∧ -r1 ≤ (u - t) * (u - t)) ∧ (r2 ≤ (u - t) * (u - t) ∧ -r2 ≤ (u - t) * (u - t)) ∧ (r3 ≤ (u - t) * (u - t) ∧ -r3 ≤ (u - t) * (u - t)) ∧ (r4 ≤ (u - t) * (u - t) ∧ -r4 ≤ (u - t) * (u - t)) ∧ (r5 ≤ (u - t) * (u - t) ∧ -r5 ≤ (u - t) * (u - t)) ∧ (r6 ≤ (u - t) * (u - t) ∧ -r6 ≤ (u - t) * (u - t)) ∧
      (r7 ≤ (u - t) * (u - t) ∧ -r7 ≤ (u - t) * (u - t)) ∧ (r8 ≤ (u - t) * (u - t) ∧ -r8 ≤ (u - t) * (u - t)) ∧ (r9 ≤ (u - t) * (u - t) ∧ -r9 ≤ (u - t) * (u - t)) ∧ (r10 ≤ (u - t) * (u - t) ∧ -r10 ≤ (u - t) * (u - t)) ∧ (r11 ≤ (u - t) * (u - t) ∧ -r11 ≤ (u - t) * (u - t)) := by
    refine ⟨_, _, _, _, _, _, _, _, _, _, _, ?_, h1, h2, h3, h4, h5, h6, h7, h8, h9, h10, h11⟩
    unfold e12 e11
    clear h1 h2 h3 h4 h5 h6 h7 h8 h9 h10 h11 hd ht hu
    grind
  obtain ⟨r1, r2, r3, r4, r5, r6, r7, r8, r9, r10, r11, e, k1, k2, k3, k4, k5, k6, k7, k8, k9, k10, k11⟩ := key
  rw [e]
  clear e h1 h2 h3 h4 h5 h6 h7 h8 h9 h10 h11
  generalize (u - t) * (u - t) = d at *
  refine av_le ?_ ?_ <;> grind
theorem pw_two {t : Rat} (ht : av t ≤ 1 / 5) (m : Nat) {c : Rat} (hc : ((1 : Rat) / 5) ^ m ≤ c) : t ^ m ≤ c ∧ -c ≤ t ^ m := by
  have h := Rat.le_trans (pw_le ht (by decide +kernel) m) hc
  exact ⟨Rat.le_trans (le_av _) h, by have := Rat.le_trans (neg_le_av _) h; grind⟩
theorem e12_in {t : Rat} (ht : av t ≤ 1 / 5) : 3 / 4 ≤ e12 t ∧ e12 t ≤ 5 / 4 ∧ av (e11 t) ≤ 5 / 4 ∧ av (t ^ 12 / 479001600) ≤ eta := by
  have h1 := Rat.le_trans (le_av _) ht
  have h1' := Rat.le_trans (neg_le_av _) ht
  have h2 := pw_two ht 2 (c := 1 / 25) (by decide +kernel)
  have h3 := pw_two ht 3 (c := 1 / 125) (by decide +kernel)
  have h4 := pw_two ht 4 (c := 1 / 625) (by decide +kernel)
  have h5 := pw_two ht 5 (c := 1 / 3125) (by decide +kernel)
  have h6 := pw_two ht 6 (c := 1 / 3125) (by decide +kernel)
  have h7 := pw_two ht 7 (c := 1 / 3125) (by decide +kernel)
  have h8 := pw_two ht 8 (c := 1 / 3125) (by decide +kernel)
  have h9 := pw_two ht 9 (c := 1 / 3125) (by decide +kernel)
  have h10 := pw_two ht 10 (c := 1 / 3125) (by decide +kernel)
  have h11 := pw_two ht 11 (c := 1 / 3125) (by decide +kernel)
  have h12 := pw_two ht 12 (c := 1 / 244140625) (by decide +kernel)
  have hq : av (t ^ 12 / 479001600) ≤ eta := by
    rw [Rat.div_def]
    exact Rat.le_trans (av_mul_le' (pw_le ht (by decide +kernel) 12) (show av (479001600 : Rat)⁻¹ ≤ 1 / 479001600 by decide +kernel)) (by decide +kernel)
  unfold e12 e11
  generalize t ^ 2 = t2 at *
  generalize t ^ 3 = t3 at *
  generalize t ^ 4 = t4 at *
  generalize t ^ 5 = t5 at *
  generalize t ^ 6 = t6 at *
  generalize t ^ 7 = t7 at *
  generalize t ^ 8 = t8 at *
  generalize t ^ 9 = t9 at *
  generalize t ^ 10 = t10 at *
  generalize t ^ 11 = t11 at *
  generalize t ^ 12 = t12 at *
  refine ⟨by grind, by grind, av_le (by grind) (by grind), hq⟩
theorem lg_e_step {t u : Rat} (ht : av t ≤ 1 / 5) (hu : av u ≤ 1 / 5) : av ((lgG (e12 u) - u) - (lgG (e12 t) - t)) ≤ 200 * ((u - t) * (u - t)) + 4 * eta * av (u - t) := by
  obtain ⟨a1, a2, a3, a4⟩ := e12_in ht
  obtain ⟨b1, b2, _, _⟩ := e12_in hu
  have S := e12_step ht hu
  have L := lgG_step a1 (by grind) b1 (by grind)
  have hE : e12 t = e11 t + t ^ 12 / 479001600 := rfl
  obtain ⟨x, hx⟩ : ∃ x, e12 t * x = 1 := ⟨1 / e12 t, by grind⟩
  obtain ⟨x0, x1⟩ := inv_le hx (c := 4 / 3) (by decide +kernel) (by grind) (by grind)
  generalize lgG (e12 u) = gu at *
  generalize lgG (e12 t) = gt at *
  generalize e12 u = pu at *
  generalize e12 t = pt at *
  generalize e11 t = p1 at *
  generalize t ^ 12 / 479001600 = q at *
  obtain ⟨d, hd⟩ : ∃ d, d = u - t := ⟨_, rfl⟩
  rw [← hd] at S ⊢
  have hu2 : u = t + d := by grind
  have hds : av d ≤ 2 / 5 := by rw [hd]; have := av_sub_le hu ht; grind
  obtain ⟨r, hr⟩ : ∃ r, r = pu - pt - p1 * d := ⟨_, rfl⟩
  rw [← hr] at S
  have e1 : (pu - pt) / pt = d - d * (q * x) + r * x := by grind
  rw [e1] at L
  have hdd := sq_nonneg d
  have n1 : av (q * x) ≤ eta * (4 / 3) := av_mul_le' a4 (by rw [av_of_nonneg x0]; exact x1)
  have n2 : av (d * (q * x)) ≤ av d * (eta * (4 / 3)) := av_mul_le' Rat.le_refl n1
  have n3 : av (r * x) ≤ d * d * (4 / 3) := av_mul_le' S (by rw [av_of_nonneg x0]; exact x1)
  have n4 : av (pu - pt) ≤ 2 * av d := by
    have k1 := av_mul_le' a3 (show av d ≤ av d from Rat.le_refl)
    have k2 := av_add_le k1 S
    rw [show p1 * d + r = pu - pt by grind] at k2
    have k3 := av_mul_le' hds (show av d ≤ av d from Rat.le_refl)
    rw [av_sq] at k3
    grind
  have n5 : (pu - pt) * (pu - pt) ≤ 4 * (d * d) := by
    have k := av_mul_le' n4 n4
    rw [av_sq] at k
    have : av d * av d = d * d := by rw [← av_mul, av_sq]
    grind
  have K := av_add_le (av_sub_le L n2) n3
  have e2 : gu - gt - (d - d * (q * x) + r * x) - d * (q * x) + r * x = (gu - u) - (gt - t) := by grind
  rw [e2] at K
  refine Rat.le_trans K ?_
  have he : (0 : Rat) ≤ eta := by decide +kernel
  have k1 := Rat.mul_le_mul_of_nonneg_left n4 he
  have k2 := Rat.mul_nonneg he (av_nonneg d)
  clear e2 K e1 L hx hE hr hu2
  generalize av (pu - pt) = dp at *
  generalize av d = ad at *
  generalize (pu - pt) * (pu - pt) = s2 at *
  generalize d * d = dd at *
  generalize eta = e at *
  grind
/-- The logarithm of the row is its argument. -/
theorem Ln_e12 {t : Rat} (ht : av t ≤ 1 / 5) : av (Ln (e12 t) - t) ≤ 5 * eta := by
  obtain ⟨a1, a2, _, _⟩ := e12_in ht
  rw [Ln_mid a1 (by grind)]
  obtain ⟨h, hh, g1, g2⟩ := small_step (d := t - 0) (by rw [show t - 0 = t by grind]; grind)
  have t1 := Rat.le_trans (le_av _) ht
  have t2 := Rat.le_trans (neg_le_av _) ht
  have key : ∀ i, i < bigM → av ((lgG (e12 (ptA 0 t (i + 1))) - ptA 0 t (i + 1)) - (lgG (e12 (ptA 0 t i)) - ptA 0 t i)) ≤ 200 * (1 / ((bigM : Rat) * (bigM : Rat))) + 4 * eta * (1 / (bigM : Rat)) := by
    intro i hi
    obtain ⟨p1, p2⟩ := ptA_in (lo := -(1 / 5)) (hi := 1 / 5) (a := 0) (b := t) (by decide +kernel) (by decide +kernel) (by grind) (by grind) (i := i) (by omega)
    obtain ⟨q1, q2⟩ := ptA_in (lo := -(1 / 5)) (hi := 1 / 5) (a := 0) (b := t) (by decide +kernel) (by decide +kernel) (by grind) (by grind) (i := i + 1) (by omega)
    have A := lg_e_step (t := ptA 0 t i) (u := ptA 0 t (i + 1)) (av_le (by grind) (by grind)) (av_le (by grind) (by grind))
    have e := ptA_succ 0 t i
    rw [← hh] at e
    rw [show ptA 0 t (i + 1) - ptA 0 t i = h by grind] at A
    refine Rat.le_trans A ?_
    have he : (0 : Rat) ≤ 4 * eta := by decide +kernel
    have k1 := Rat.mul_le_mul_of_nonneg_left g1 he
    generalize 1 / ((bigM : Rat) * (bigM : Rat)) = M2 at *
    generalize 1 / (bigM : Rat) = M1 at *
    grind
  have T := tele (f := fun i => lgG (e12 (ptA 0 t i)) - ptA 0 t i) key bigM (Nat.le_refl _)
  simp only [ptA_zero, ptA_end] at T
  rw [e12_zero, show lgG 1 = 0 by decide +kernel] at T
  rw [show lgG (e12 t) - t - (0 - 0) = lgG (e12 t) - t by grind] at T
  refine Rat.le_trans T ?_
  decide +kernel

end Go.Proofs.Ytmocfnpbofeiiaa

/- The exponential function that both packages reckon is near the exact one. Plain: no program. -/
namespace Go.Proofs.Ytmocfnpbofeiiaa
set_option linter.unusedSimpArgs false
set_option linter.unusedVariables false
open Ieee

def pxx (t : Rat) : Nat → Rat
  | 0 => 1
  | j + 1 => 1 + t * pxx t j / (12 - (j : Rat))
theorem pxx_eq (t : Rat) : pxx t 12 = e12 t := by
  simp only [pxx]
  simp only [show ((0 : Nat) : Rat) = 0 from rfl, show ((1 : Nat) : Rat) = 1 from rfl, show ((2 : Nat) : Rat) = 2 from rfl, show ((3 : Nat) : Rat) = 3 from rfl, show ((4 : Nat) : Rat) = 4 from rfl, show ((5 : Nat) : Rat) = 5 from rfl, show ((6 : Nat) : Rat) = 6 from rfl, show ((7 : Nat) : Rat) = 7 from rfl, show ((8 : Nat) : Rat) = 8 from rfl, show ((9 : Nat) : Rat) = 9 from rfl, show ((10 : Nat) : Rat) = 10 from rfl, show ((11 : Nat) : Rat) = 11 from rfl]
  unfold e12 e11
  grind
theorem f12_all : ∀ j : Nat, j < 12 → (rg double (floatOfInt .f64 (12 - (j : Int))) < double.infRung ∧ sv double (floatOfInt .f64 (12 - (j : Int))) = 12 - (j : Rat)) ∧ 1 ≤ 12 - (j : Rat) := by decide +kernel
theorem pxx_le {t : Rat} (ht : av t ≤ 1 / 5) : ∀ j : Nat, j ≤ 12 → av (pxx t j) ≤ 5 / 4 ∧ (j < 12 → av (t * pxx t j) ≤ 1 / 4 ∧ av (t * pxx t j / (12 - (j : Rat))) ≤ 1 / 4) := by
  have key : ∀ j : Nat, j < 12 → av (pxx t j) ≤ 5 / 4 → av (t * pxx t j) ≤ 1 / 4 ∧ av (t * pxx t j / (12 - (j : Rat))) ≤ 1 / 4 := by
    intro j hj h
    have h1 := av_mul_le' ht h
    have h2 : av (t * pxx t j) ≤ 1 / 4 := by grind
    have h3 := (f12_all j hj).2
    refine ⟨h2, av_div_le ?_ h2⟩
    rw [av_of_nonneg (by grind)]; exact h3
  intro j
  induction j with
  | zero =>
    intro _
    have h : av (pxx t 0) ≤ 5 / 4 := by simp only [pxx]; decide +kernel
    exact ⟨h, fun hj => key 0 hj h⟩
  | succ j ih =>
    intro hj
    have h1 := ((ih (by omega)).2 (by omega)).2
    have h : av (pxx t (j + 1)) ≤ 5 / 4 := by
      simp only [pxx]
      have := av_add_le (show av 1 ≤ 1 by decide +kernel) h1
      grind
    exact ⟨h, fun hj => key (j + 1) hj h⟩
theorem exP_ap {T : Nat} (hT : Fnt double T) (ht : av (sv double T) ≤ 1 / 5) : ∀ j : Nat, j ≤ 12 → Ap .f64 (exP T j) (pxx (sv double T) j) (1 / 1000000000000000) := by
  intro j
  induction j with
  | zero => intro _; exact one_ap.mono (by decide +kernel)
  | succ j ih =>
    intro hj
    have h1 := ih (by omega)
    obtain ⟨b0, b1⟩ := pxx_le ht j (by omega)
    obtain ⟨b2, b3⟩ := b1 (by omega)
    obtain ⟨⟨f1, f2⟩, f3⟩ := f12_all j (by omega)
    obtain ⟨c0, _⟩ := pxx_le ht (j + 1) hj
    obtain ⟨_, m⟩ := ap_mul (E := 1 / 3000000000000000) (Ap.self (k := .f64) hT) h1 (A := 1 / 5) (B := 5 / 4) ht b0 (by decide +kernel) (by decide +kernel)
    obtain ⟨_, q⟩ := ap_div (E := 1 / 2400000000000000) (Q := 1 / 4) (c := 1) m (Ap.ex (k := .f64) f1 f2) (by decide +kernel) (by rw [av_of_nonneg (by grind)]; grind) b3 (by decide +kernel) (by decide +kernel)
    obtain ⟨_, s⟩ := ap_add (E := 1 / 1000000000000000) one_ap q (A := 5 / 4) (by simp only [pxx] at c0; exact c0) (by decide +kernel) (by decide +kernel)
    exact s
theorem sq_ap {p : Nat} {v e E : Rat} (hp : Ap .f64 p v e) (v1 : av v ≤ 1) (hh : 1 * 1 + (e * (1 + e) + 1 * e) ≤ huge .f64) (hE : e * (1 + e) + 1 * e + (1 * 1 + (e * (1 + e) + 1 * e)) * ulp .f64 + tin .f64 ≤ E) : Ap .f64 (fA .mul .f64 p p) (v * v) E := (ap_mul hp hp v1 v1 hh hE).2
theorem av_sq_le {v : Rat} (v1 : av v ≤ 1) : av (v * v) ≤ 1 := by have := av_mul_le' v1 v1; grind
theorem Ln_sq {v a e : Rat} (v0 : 0 < v) (h : av (Ln v - a) ≤ e) : 0 < v * v ∧ av (Ln (v * v) - 2 * a) ≤ 2 * e + 8 * eta := by
  refine ⟨Rat.mul_pos v0 v0, ?_⟩
  have h1 := Ln_mul v0 v0
  have h2 := av_mul_le' (show av 2 ≤ 2 by decide +kernel) h
  have h3 := av_add_le h1 h2
  rw [show Ln (v * v) - Ln v - Ln v + 2 * (Ln v - a) = Ln (v * v) - 2 * a by grind] at h3
  grind
/-- e to the power of a double word that is not above zero: near a number whose logarithm is the word's value, nearly. -/
theorem exW_ap {X : Nat} (hX : Fnt double X) (h1 : -51 ≤ sv double X) (h2 : sv double X ≤ 0) : ∃ v, 0 < v ∧ v ≤ 1 ∧ Ap .f64 (exW X) v (1 / 1000000000000) ∧ av (Ln v - sv double X) ≤ 1 / 1000000000000 := by
  have a256 : Ap .f64 4643211215818981376 256 0 := Ap.ex (fin_of_lt double (by rw [d_inf]; omega)) sv_256
  obtain ⟨_, t0⟩ := ap_div (E := 1 / 10000000000000000) (Q := 1 / 5) (c := 256) (v := sv double X) (show Ap .f64 X (sv double X) 0 from Ap.self (k := .f64) hX) a256 (by decide +kernel) (by decide +kernel) (av_le (by grind) (by grind)) (by decide +kernel) (by decide +kernel)
  have hT : Ap .f64 (exT X) (sv double X / 256) (1 / 10000000000000000) := t0
  have hs := hT.2
  rw [show FloatKind.f64.format = double from rfl] at hs
  have htr : Rnd double (sv double X / 256) (exT X) := by
    have p6 : pv 1 ((6 : Nat) : Int) = 64 := by decide +kernel
    have hb : Bd .f64 6 X := by
      refine av_le ?_ ?_
      · rw [show FloatKind.f64.format = double from rfl, p6]; grind
      · rw [show FloatKind.f64.format = double from rfl, p6]; grind
    obtain ⟨_, _, a3⟩ := bd_div (k := .f64) (y := 4643211215818981376) hb (fin_of_lt double (by rw [d_inf]; omega)) (by rw [show FloatKind.f64.format = double from rfl, sv_256]; decide +kernel) (by decide)
    rw [show FloatKind.f64.format = double from rfl, sv_256] at a3
    exact a3
  have t1 : sv double (exT X) ≤ 0 := rnd_le (c := 0) 0 htr (rv_zero _) (by grind)
  have hfT : Fnt double (exT X) := hT.1
  unfold exW
  generalize sv double X = x at *
  generalize hTd : exT X = T at *
  obtain ⟨t, ht⟩ : ∃ t, t = sv double T := ⟨_, rfl⟩
  have k1 := Rat.le_trans (le_av _) hs
  have k2 := Rat.le_trans (neg_le_av _) hs
  have t2 : av t ≤ 1 / 5 := by rw [ht]; exact av_le (by grind) (by grind)
  have P0 := exP_ap hfT (by rw [← ht]; exact t2) 12 (by omega)
  rw [← ht] at P0 t1 k1 k2
  have L0 := Ln_e12 t2
  obtain ⟨m1, m2, _, _⟩ := e12_in t2
  have v1 : e12 t ≤ 1 := by
    rw [← pxx_eq]
    have h11 := (pxx_le t2 10 (by omega)).2 (by omega)
    have h10 := Rat.le_trans (neg_le_av _) h11.2
    have e11 : pxx t 11 = 1 + t * pxx t 10 / (12 - ((10 : Nat) : Rat)) := rfl
    have e12 : pxx t 12 = 1 + t * pxx t 11 / (12 - ((11 : Nat) : Rat)) := rfl
    have : (12 - ((11 : Nat) : Rat)) = 1 := by decide +kernel
    rw [e12, this]
    have p0 : 0 ≤ pxx t 11 := by rw [e11]; grind
    have := Rat.mul_nonneg (show 0 ≤ -t by grind) p0
    grind
  rw [pxx_eq] at P0
  generalize exP T 12 = p at *
  generalize e12 t = v at *
  clear hs htr hT t0 hTd hfT
  have w0 : 0 < v := by grind
  have u0 : av v ≤ 1 := by rw [av_of_nonneg (by grind)]; exact v1
  obtain ⟨w1, L1⟩ := Ln_sq w0 L0
  have P1 := sq_ap (E := 1 / 300000000000000) P0 u0 (by decide +kernel) (by decide +kernel)
  have u1 := av_sq_le u0
  obtain ⟨w2, L2⟩ := Ln_sq w1 L1
  have P2 := sq_ap (E := 1 / 140000000000000) P1 u1 (by decide +kernel) (by decide +kernel)
  have u2 := av_sq_le u1
  obtain ⟨w3, L3⟩ := Ln_sq w2 L2
  have P3 := sq_ap (E := 1 / 65000000000000) P2 u2 (by decide +kernel) (by decide +kernel)
  have u3 := av_sq_le u2
  obtain ⟨w4, L4⟩ := Ln_sq w3 L3
  have P4 := sq_ap (E := 1 / 31000000000000) P3 u3 (by decide +kernel) (by decide +kernel)
  have u4 := av_sq_le u3
  obtain ⟨w5, L5⟩ := Ln_sq w4 L4
  have P5 := sq_ap (E := 1 / 15000000000000) P4 u4 (by decide +kernel) (by decide +kernel)
  have u5 := av_sq_le u4
  obtain ⟨w6, L6⟩ := Ln_sq w5 L5
  have P6 := sq_ap (E := 1 / 7000000000000) P5 u5 (by decide +kernel) (by decide +kernel)
  have u6 := av_sq_le u5
  obtain ⟨w7, L7⟩ := Ln_sq w6 L6
  have P7 := sq_ap (E := 1 / 3400000000000) P6 u6 (by decide +kernel) (by decide +kernel)
  have u7 := av_sq_le u6
  obtain ⟨w8, L8⟩ := Ln_sq w7 L7
  have P8 := sq_ap (E := 1 / 1600000000000) P7 u7 (by decide +kernel) (by decide +kernel)
  have u8 := av_sq_le u7
  refine ⟨_, w8, ?_, P8.mono (by decide +kernel), ?_⟩
  · have := Rat.le_trans (le_av _) u8
    exact this
  · generalize Ln _ = l at L8 ⊢
    have a1 := Rat.le_trans (le_av _) L8
    have a2 := Rat.le_trans (neg_le_av _) L8
    have he : eta = 1 / 100000000000000000 := rfl
    rw [he] at a1 a2
    clear L0 L1 L2 L3 L4 L5 L6 L7 L8 P0 P1 P2 P3 P4 P5 P6 P7 P8 u0 u1 u2 u3 u4 u5 u6 u7 u8 w0 w1 w2 w3 w4 w5 w6 w7 w8
    exact av_le (by grind) (by grind)

end Go.Proofs.Ytmocfnpbofeiiaa

/- Logarithms and exponentials in single precision, near the exact ones. Plain: no program. -/
namespace Go.Proofs.Ytmocfnpbofeiiaa
set_option linter.unusedSimpArgs false
set_option linter.unusedVariables false
open Ieee

theorem Ln_nearer {x y d : Rat} (hy : 0 < y) (hd : d ≤ 1 / 2) (h : av (x - y) ≤ d * y) : 0 < x ∧ av (Ln x - Ln y) ≤ d + 2 * (d * d) + 10 * eta := by
  have h1 := Rat.le_trans (le_av _) h
  have h2 := Rat.le_trans (neg_le_av _) h
  have d0 : 0 ≤ d := by
    by_cases h0 : 0 ≤ d
    · exact h0
    · have := Rat.mul_lt_mul_of_pos_right (show d < 0 by grind) hy
      have := av_nonneg (x - y)
      grind
  have k1 := Rat.mul_le_mul_of_nonneg_right hd (Rat.le_of_lt hy)
  have hx : 0 < x := by grind
  have dd := sq_nonneg d
  refine ⟨hx, av_le ?_ ?_⟩
  · have := Ln_up (d := d) hx hy (by grind)
    grind
  · have k2 := Rat.mul_le_mul_of_nonneg_right (show d ≤ d + 2 * (d * d) - 2 * d * (d * d) + (d * d) - (d * d) by
      have := Rat.mul_nonneg dd (show 0 ≤ 1 - d by grind)
      grind) (Rat.le_of_lt hy)
    have k3 := Rat.mul_le_mul_of_nonneg_left (show y - d * y ≤ x by grind) (show 0 ≤ d + 2 * (d * d) by grind)
    have k4 := Rat.mul_nonneg (Rat.mul_nonneg dd (show 0 ≤ 1 - 2 * d by grind)) (Rat.le_of_lt hy)
    have := Ln_up (d := d + 2 * (d * d)) hy hx (by grind)
    grind
/-- The logarithm of a single word, narrowed. -/
theorem lnF_ap {x : Nat} {B E : Rat} (h0 : 0 < x) (hx : x < 2139095040) (hB : av (Ln (sv single x)) ≤ B) (hh : B + 1 / 1000000000000 ≤ huge .f32) (hE : 1 / 1000000000000 + (B + 1 / 1000000000000) * es + ts ≤ E) : Ap .f32 (lnF x) (Ln (sv single x)) E := by
  obtain ⟨_, u1, u2⟩ := up64_pos h0 hx
  have hf : Fnt single x := fin_of_lt single (by rw [s_inf]; exact hx)
  obtain ⟨_, _, us⟩ := ap_up (Ap.self (k := .f32) hf)
  have hl := lnW_ap u1 (by omega)
  rw [us] at hl
  exact (ap_down hl hB hh hE).2
/-- The bits of a number by the logarithm of two that the program writes. -/
def lnC : Rat := sv single 1060205080
theorem lnC_b : 6931471 / 10000000 ≤ lnC ∧ lnC ≤ 6931473 / 10000000 := by decide +kernel
theorem lnC_ap : Ap .f32 1060205080 lnC 0 := Ap.self (k := .f32) (show Fnt single 1060205080 from fin_of_lt single (by rw [s_inf]; omega))
theorem enB_ap {x : Nat} {B e E : Rat} (hl : Ap .f32 (lnF x) (Ln (sv single x)) e) (hB : av (Ln (sv single x)) ≤ B) (hh : B * (3 / 2) + (e + B * (3 / 2) * 0) / (2 / 3) ≤ huge .f32) (hE : (e + B * (3 / 2) * 0) / (2 / 3) + (B * (3 / 2) + (e + B * (3 / 2) * 0) / (2 / 3)) * ulp .f32 + tin .f32 ≤ E) : Ap .f32 (enB x) (Ln (sv single x) / lnC) E := by
  have hq : av (Ln (sv single x) / lnC) ≤ B * (3 / 2) := by
    rw [Rat.div_def]
    exact av_mul_le' hB (show av lnC⁻¹ ≤ 3 / 2 by decide +kernel)
  exact (ap_div hl lnC_ap (c := 2 / 3) (by decide +kernel) (by decide +kernel) hq hh hE).2
/-- Numbers that are powers of e of more than -9 are not small. -/
theorem Ln_low {v : Rat} (hv : 0 < v) (h : -(901 / 100) ≤ Ln v) : 1 / 8192 ≤ v := by
  by_cases hc : 1 / 8192 ≤ v
  · exact hc
  · have h1 := Ln_mono hv (show v ≤ 1 / 8192 by grind)
    have e := Ln_pow (x := 1) (by decide +kernel) (-13)
    rw [show (1 : Rat) * 2 ^ (-13 : Int) = 1 / 8192 by decide +kernel, Ln_one, show ((-13 : Int) : Rat) = -13 from rfl] at e
    have := lg2_lo
    have he : eta ≤ 1 / 1000000 := by decide +kernel
    grind
/-- The exponential function in single precision. -/
theorem exF_ln {z : Nat} (hz : Fnt single z) (h1 : -9 ≤ sv single z) (h2 : sv single z ≤ 0) : Fnt single (exF z) ∧ 0 < sv single (exF z) ∧ sv single (exF z) ≤ 2 ∧ av (Ln (sv single (exF z)) - sv single z) ≤ 1 / 6500000 := by
  obtain ⟨_, u1, us⟩ := up_sv hz
  obtain ⟨v, v0, v1, va, vl⟩ := exW_ap u1 (by rw [us]; grind) (by rw [us]; exact h2)
  rw [us] at vl
  have e0 : exF z = (floatToFloatBits .f64 (exW (up64 z)) .f32).getD 0 := by
    unfold exF
    rw [if_neg (by grind)]
    rfl
  have vlow : 1 / 8192 ≤ v := by
    refine Ln_low v0 ?_
    have := Rat.le_trans (neg_le_av _) vl
    grind
  have hav : av v ≤ v := by rw [av_of_nonneg (by grind)]; exact Rat.le_refl
  have k120 : (2 : Rat) ≤ huge .f32 := by decide +kernel
  have D := (ap_down va hav (by grind) Rat.le_refl).2
  rw [← e0] at D
  have hd := D.2
  rw [show FloatKind.f32.format = single from rfl] at hd
  have b1 : av (sv single (exF z) - v) ≤ 1 / 7000000 * v := by
    refine Rat.le_trans hd ?_
    have c1 : es ≤ 1 / 8300000 := by decide +kernel
    have c2 : ts ≤ 1 / 1000000000000 := by decide +kernel
    have c3 := Rat.mul_le_mul_of_nonneg_left c1 (show 0 ≤ v + 1 / 1000000000000 by grind)
    generalize es = a at *
    generalize ts = b at *
    clear hd D hav va vl e0
    grind
  obtain ⟨p, q⟩ := Ln_nearer v0 (by decide +kernel) b1
  have hv2 := Rat.le_trans (le_av _) b1
  refine ⟨D.1, p, by grind, ?_⟩
  have r := av_add_le q vl
  rw [show Ln (sv single (exF z)) - Ln v + (Ln v - sv single z) = Ln (sv single (exF z)) - sv single z by grind] at r
  refine Rat.le_trans r ?_
  decide +kernel

end Go.Proofs.Ytmocfnpbofeiiaa
