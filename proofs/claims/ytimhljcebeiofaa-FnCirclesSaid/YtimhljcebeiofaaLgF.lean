/- The logarithm that both packages reckon is near the exact one. Plain: no program. -/
import Derived.Test.YtimhljcebeiofaaApX
import Derived.Test.YtimhljcebeiofaaLgN
namespace Go.Proofs.Ytimhljcebeiofaa
set_option linter.unusedSimpArgs false
set_option linter.unusedVariables false
open Ieee

theorem rv_ups (x : Nat) (h : 4503599627370496 ≤ x) : ∀ n : Nat, rv double (x + n * 4503599627370496) = 2 ^ (n : Int) * rv double x := by
  intro n
  induction n with
  | zero => rw [Nat.zero_mul, Nat.add_zero, show (2 : Rat) ^ ((0 : Nat) : Int) = 1 by decide +kernel, Rat.one_mul]
  | succ n ih =>
    have := rv_up double (x + n * 4503599627370496) (by rw [d_bin]; omega)
    rw [d_bin] at this
    rw [Nat.add_mul, Nat.one_mul, ← Nat.add_assoc, this, ih, Int.natCast_add, show ((1 : Nat) : Int) = 1 from rfl, p2_succ, Rat.mul_assoc]
theorem ln_val {X : Nat} (h1 : 3936146074321813504 ≤ X) (h2 : X ≤ 5183643171103440896) : sv double X = sv double (lnZ X) * 2 ^ (lnE X) := by
  obtain ⟨b1, b2, b3⟩ := lnN_bd h1 h2
  have hz := lnZ_lt (X := X)
  rw [sv_of_le double (by rw [d_inf]; omega), sv_of_le double (by rw [d_inf]; omega)]
  have e1 := rv_ups (lnY X) (by omega) (lnN1 X)
  have e2 := rv_ups (lnY X) (by omega) (lnN2 X)
  have hX : lnY X + lnN1 X * 4503599627370496 = X := by unfold lnY lnN1 at *; omega
  rw [hX] at e1
  rw [show lnY X + lnN2 X * 4503599627370496 = lnZ X from rfl] at e2
  have e3 : (2 : Rat) ^ ((lnN1 X : Nat) : Int) = 2 ^ ((lnN2 X : Nat) : Int) * 2 ^ (lnE X) := by
    rw [← p2_add]; congr 1; unfold lnE; omega
  rw [e1, e2, e3]
  generalize (2 : Rat) ^ ((lnN2 X : Nat) : Int) = P
  generalize (2 : Rat) ^ (lnE X) = Q
  grind
/-- Horner's way to the row's sum. -/
def qx (u : Rat) : Nat → Rat
  | 0 => 0
  | j + 1 => 1 / (25 - 2 * (j : Rat)) + u * qx u j
theorem qx_eq (s : Rat) : atT s 13 = s * qx (s * s) 13 := by
  have p : ∀ n : Nat, s ^ (n + 1) = s ^ n * s := fun n => Rat.pow_succ s n
  simp only [atT, qx, p, Rat.pow_zero]
  simp only [show ((2 * 0 + 1 : Nat) : Rat) = 1 from rfl, show ((2 * 1 + 1 : Nat) : Rat) = 3 from rfl, show ((2 * 2 + 1 : Nat) : Rat) = 5 from rfl, show ((2 * 3 + 1 : Nat) : Rat) = 7 from rfl, show ((2 * 4 + 1 : Nat) : Rat) = 9 from rfl, show ((2 * 5 + 1 : Nat) : Rat) = 11 from rfl, show ((2 * 6 + 1 : Nat) : Rat) = 13 from rfl, show ((2 * 7 + 1 : Nat) : Rat) = 15 from rfl, show ((2 * 8 + 1 : Nat) : Rat) = 17 from rfl, show ((2 * 9 + 1 : Nat) : Rat) = 19 from rfl, show ((2 * 10 + 1 : Nat) : Rat) = 21 from rfl, show ((2 * 11 + 1 : Nat) : Rat) = 23 from rfl, show ((2 * 12 + 1 : Nat) : Rat) = 25 from rfl,
    show ((0 : Nat) : Rat) = 0 from rfl, show ((1 : Nat) : Rat) = 1 from rfl, show ((2 : Nat) : Rat) = 2 from rfl, show ((3 : Nat) : Rat) = 3 from rfl, show ((4 : Nat) : Rat) = 4 from rfl, show ((5 : Nat) : Rat) = 5 from rfl, show ((6 : Nat) : Rat) = 6 from rfl, show ((7 : Nat) : Rat) = 7 from rfl, show ((8 : Nat) : Rat) = 8 from rfl, show ((9 : Nat) : Rat) = 9 from rfl, show ((10 : Nat) : Rat) = 10 from rfl, show ((11 : Nat) : Rat) = 11 from rfl, show ((12 : Nat) : Rat) = 12 from rfl]
  grind
theorem qx_le {u : Rat} (h0 : 0 ≤ u) (h1 : u ≤ 1 / 25) : ∀ j : Nat, j ≤ 13 → 0 ≤ qx u j ∧ qx u j ≤ 2 := by
  intro j
  induction j with
  | zero => intro _; simp only [qx]; exact ⟨Rat.le_refl, by decide +kernel⟩
  | succ j ih =>
    intro hj
    obtain ⟨i0, i1⟩ := ih (by omega)
    have hq : 0 ≤ 1 / (25 - 2 * (j : Rat)) ∧ 1 / (25 - 2 * (j : Rat)) ≤ 1 := by
      have : ∀ j : Nat, j < 13 → 0 ≤ 1 / (25 - 2 * (j : Rat)) ∧ 1 / (25 - 2 * (j : Rat)) ≤ 1 := by decide +kernel
      exact this j (by omega)
    have m1 := Rat.mul_nonneg h0 i0
    have m2 := Rat.mul_le_mul_of_nonneg_right h1 i0
    simp only [qx]
    generalize 1 / (25 - 2 * (j : Rat)) = r at *
    generalize qx u j = q at *
    constructor <;> grind
theorem inv_ap : ∀ j : Nat, j < 13 → Ap .f64 (fA .quo .f64 4607182418800017408 (floatOfInt .f64 (25 - 2 * (j : Int)))) (1 / (25 - 2 * (j : Rat))) (1 / 1000000000000000) := by
  have h : ∀ j : Nat, j < 13 → rg double (fA .quo .f64 4607182418800017408 (floatOfInt .f64 (25 - 2 * (j : Int)))) < double.infRung ∧ av (sv double (fA .quo .f64 4607182418800017408 (floatOfInt .f64 (25 - 2 * (j : Int)))) - 1 / (25 - 2 * (j : Rat))) ≤ 1 / 1000000000000000 := by decide +kernel
  exact h
theorem one_ap : Ap .f64 4607182418800017408 1 0 := Ap.ex (fin_of_lt double (by rw [d_inf]; omega)) sv_one
theorem two_ap : Ap .f64 4611686018427387904 2 0 := Ap.ex (fin_of_lt double (by rw [d_inf]; omega)) (by rw [show FloatKind.f64.format = double from rfl, sv_of_le double (by rw [d_inf]; omega)]; exact rv_2)
theorem lnS_ap {z : Nat} (h1 : 4604930618986332160 ≤ z) (h2 : z < 4609434218613702656) : 3 / 4 ≤ sv double z ∧ sv double z ≤ 3 / 2 ∧ Ap .f64 (lnS z) (lgS (sv double z)) (1 / 1000000000000000) := by
  have fz : Fnt double z := fin_of_lt double (by rw [d_inf]; omega)
  have g1 : (3 : Rat) / 4 ≤ sv double z := by
    rw [← sv_075, sv_of_le double (by rw [d_inf]; omega), sv_of_le double (by rw [d_inf]; omega)]
    exact rv_le _ h1
  have g2 : sv double z ≤ 3 / 2 := by
    rw [← sv_15, sv_of_le double (by rw [d_inf]; omega), sv_of_le double (by rw [d_inf]; omega)]
    exact rv_le _ (by omega)
  refine ⟨g1, g2, ?_⟩
  have hz : Ap .f64 z (sv double z) 0 := Ap.self fz
  generalize sv double z = m at *
  obtain ⟨_, a⟩ := ap_sub (E := 1 / 4000000000000000) hz one_ap (A := 1) (av_le (by grind) (by grind)) (by decide +kernel) (by decide +kernel)
  obtain ⟨_, b⟩ := ap_add (E := 1 / 1000000000000000) hz one_ap (A := 4) (av_le (by grind) (by grind)) (by decide +kernel) (by decide +kernel)
  obtain ⟨_, c⟩ := ap_div (E := 1 / 1000000000000000) (Q := 1 / 5) (c := 1) a b (by decide +kernel) (by rw [av_of_nonneg (by grind)]; grind) (lgS_le g1 g2) (by decide +kernel) (by decide +kernel)
  exact c
/-- The steps of the row. -/
theorem lnQ_ap {u : Nat} {v : Rat} (hu : Ap .f64 u v (1 / 1000000000000000)) (v0 : 0 ≤ v) (v1 : v ≤ 1 / 25) : ∀ j, j ≤ 13 → Ap .f64 (lnQ u j) (qx v j) (1 / 100000000000000) := by
  intro j
  induction j with
  | zero => intro _; exact (Ap.ex (k := .f64) (x := 0) (show Fnt double 0 by unfold Fnt; decide) (show sv double 0 = 0 by decide +kernel)).mono (by decide +kernel)
  | succ j ih =>
    intro hj
    have h1 := ih (by omega)
    obtain ⟨q0, q1⟩ := qx_le v0 v1 j (by omega)
    obtain ⟨_, m⟩ := ap_mul (E := 1 / 300000000000000) hu h1 (A := 1 / 25) (B := 2) (by rw [av_of_nonneg v0]; exact v1) (by rw [av_of_nonneg q0]; exact q1) (by decide +kernel) (by decide +kernel)
    obtain ⟨r0, r1⟩ := qx_le v0 v1 (j + 1) hj
    obtain ⟨_, s⟩ := ap_add (E := 1 / 100000000000000) (inv_ap j (by omega)) m (A := 2) (by
      have : av (qx v (j + 1)) ≤ 2 := by rw [av_of_nonneg r0]; exact r1
      exact this) (by decide +kernel) (by decide +kernel)
    exact s
theorem foi_200 : ∀ k : Nat, k < 400 → rg double (floatOfInt .f64 ((k : Int) - 200)) < double.infRung ∧ sv double (floatOfInt .f64 ((k : Int) - 200)) = (k : Rat) - 200 := by decide +kernel
theorem foi_ap {e : Int} (h1 : -200 ≤ e) (h2 : e < 200) : Ap .f64 (floatOfInt .f64 e) (e : Rat) 0 := by
  obtain ⟨a, b⟩ := foi_200 (e + 200).toNat (by omega)
  have h : (((e + 200).toNat : Nat) : Int) - 200 = e := by omega
  rw [h] at a b
  refine Ap.ex a ?_
  rw [show FloatKind.f64.format = double from rfl, b]
  have : (e : Rat) = (((((e + 200).toNat : Nat) : Int) - 200 : Int) : Rat) := by rw [h]
  rw [this, Rat.intCast_sub, Rat.intCast_natCast]
  rfl
theorem l2_ap : Ap .f64 4604418534313441775 lg2 (1 / 5000000000000000) := by
  have h : rg double 4604418534313441775 < double.infRung ∧ av (sv double 4604418534313441775 - lg2) ≤ 1 / 5000000000000000 := by decide +kernel
  exact h
/-- The logarithm of a double word. -/
theorem lnW_ap {X : Nat} (h1 : 3936146074321813504 ≤ X) (h2 : X ≤ 5183643171103440896) : Ap .f64 (lnW X) (Ln (sv double X)) (1 / 1000000000000) := by
  obtain ⟨b1, b2, b3⟩ := lnN_bd h1 h2
  have hz1 := lnN2_ge (X := X)
  have hz2 := lnZ_lt (X := X)
  obtain ⟨g1, g2, hs⟩ := lnS_ap (z := lnZ X) (by omega) hz2
  have hv := ln_val h1 h2
  have e1 : (-200 : Int) ≤ lnE X := by unfold lnE; omega
  have e2 : lnE X ≤ 150 := by unfold lnE; omega
  have e3 : (-150 : Int) ≤ lnE X := by unfold lnE; omega
  rw [hv, Ln_at g1 g2]
  have hsl := lgS_le g1 g2
  generalize hm : sv double (lnZ X) = m at *
  unfold lnW lnR
  generalize lnE X = e at *
  unfold lgG
  rw [qx_eq]
  generalize lgS m = s at *
  generalize lnS (lnZ X) = S at *
  have s0 := sq_nonneg s
  have s1 : s * s ≤ 1 / 25 := by have := av_mul_le' hsl hsl; rw [av_sq] at this; grind
  obtain ⟨_, hu⟩ := ap_mul (E := 1 / 1000000000000000) hs hs (A := 1 / 5) (B := 1 / 5) hsl hsl (by decide +kernel) (by decide +kernel)
  have hq := lnQ_ap hu s0 s1 13 (by omega)
  obtain ⟨q0, q1⟩ := qx_le s0 s1 13 (by omega)
  obtain ⟨_, p⟩ := ap_mul (E := 1 / 100000000000000) hs hq (A := 1 / 5) (B := 2) hsl (by rw [av_of_nonneg q0]; exact q1) (by decide +kernel) (by decide +kernel)
  have pq : av (s * qx (s * s) 13) ≤ 2 / 5 := by
    have := av_mul_le' hsl (show av (qx (s * s) 13) ≤ 2 by rw [av_of_nonneg q0]; exact q1)
    grind
  obtain ⟨_, p2⟩ := ap_mul (E := 1 / 10000000000000) two_ap p (A := 2) (B := 2 / 5) (by decide +kernel) pq (by decide +kernel) (by decide +kernel)
  have he : av (e : Rat) ≤ 150 := by
    refine av_le ?_ ?_
    · exact_mod_cast e2
    · have : ((-150 : Int) : Rat) ≤ (e : Rat) := Rat.intCast_le_intCast.2 e3
      exact this
  have hl2 : av lg2 ≤ 1 := by decide +kernel
  obtain ⟨_, r⟩ := ap_mul (E := 1 / 10000000000000) (foi_ap e1 (by omega)) l2_ap (A := 150) (B := 1) he hl2 (by decide +kernel) (by decide +kernel)
  have r1 := av_mul_le' he hl2
  have p3 := av_mul_le' (show av 2 ≤ 2 by decide +kernel) pq
  obtain ⟨_, t⟩ := ap_add (E := 1 / 1000000000000) p2 r (A := 200) (by
    have := av_add (2 * (s * qx (s * s) 13)) ((e : Rat) * lg2)
    grind) (by decide +kernel) (by decide +kernel)
  exact t

end Go.Proofs.Ytimhljcebeiofaa
