/- The natural logarithm as both packages reckon it: the steps, and that each of them gives a number. Plain: no program. -/
import Derived.Test.YtimhljcebeiofaaGreatDoorBnd
namespace Go.Proofs.YtimhljcebeiofaaGreatDoor
set_option linter.unusedSimpArgs false
set_option linter.unusedVariables false
open Ieee

theorem order_dd {x y : Nat} (hx : x < 9218868437227405312) (hy : y < 9218868437227405312) : double.order x y = some (compare x y) := by
  have fx := fin_of_lt double (x := x) (by rw [d_inf]; exact hx)
  have fy := fin_of_lt double (x := y) (by rw [d_inf]; exact hy)
  obtain ⟨o1, o2, o3⟩ := order_fin fx fy
  rw [sv_of_le double (by rw [d_inf]; omega), sv_of_le double (by rw [d_inf]; omega)] at o1 o2 o3
  by_cases hlt : x < y
  · rw [Nat.compare_eq_lt.2 hlt]; exact o1.2 (rv_lt _ hlt)
  · by_cases heq : x = y
    · rw [Nat.compare_eq_eq.2 heq]; exact o2.2 (by rw [heq])
    · rw [Nat.compare_eq_gt.2 (by omega)]; exact o3.2 (rv_lt _ (by omega))
/-- A binade up: twice the value. -/
theorem rv_up (f : Format) (x : Nat) (h : f.binade ≤ x) : rv f (x + f.binade) = 2 * rv f x := by
  have hB := binade_pos f
  have hm := Nat.mod_lt x hB
  have hd := Nat.div_add_mod x f.binade
  have hq : 1 ≤ x / f.binade := (Nat.one_le_div_iff hB).2 h
  obtain ⟨t, ht⟩ : ∃ t, x / f.binade = t + 1 := ⟨x / f.binade - 1, by omega⟩
  rw [ht] at hd
  have e : x = t * f.binade + (f.binade + x % f.binade) := by rw [Nat.mul_add, Nat.mul_one, Nat.mul_comm] at hd; omega
  have h1 := rv_at f t (f.binade + x % f.binade) (.inr ⟨by omega, by omega⟩)
  have h2 := rv_at f (t + 1) (f.binade + x % f.binade) (.inr ⟨by omega, by omega⟩)
  rw [← e] at h1
  rw [show (t + 1) * f.binade + (f.binade + x % f.binade) = x + f.binade by rw [Nat.add_mul, Nat.one_mul]; omega] at h2
  rw [h1, h2, show f.leastPlace + ((t + 1 : Nat) : Int) = (f.leastPlace + t) + ((1 : Nat) : Int) by omega, ← pv_shift, pv_double]
  congr 1; omega
theorem d_bin : double.binade = 4503599627370496 := by decide
theorem rv_d2 : rv double 4611686018427387904 = 2 := by
  have h := rv_WK .f64 1
  have e : WK .f64 1 = 4611686018427387904 := by decide
  rw [e] at h
  rw [show (FloatKind.f64.format) = double from rfl] at h
  rw [h]; decide +kernel
theorem fA_near {op : BinOp} {q x y r : Nat} (h : floatBits op .f64 x y = some (double.word false (min q double.infRung))) (hq : q = r) (hr : r < 9218868437227405312) : (floatBits op .f64 x y).isSome = true ∧ fA op .f64 x y = r := by
  obtain ⟨h1, h2⟩ := fA_of h
  refine ⟨h1, ?_⟩
  rw [h2, word_false, hq, d_inf]
  exact Nat.min_eq_left (by omega)
theorem half_word {x : Nat} (h : 9007199254740992 ≤ x) (hx : x < 9218868437227405312) : (floatBits .quo .f64 x 4611686018427387904).isSome = true ∧ fA .quo .f64 x 4611686018427387904 = x - 4503599627370496 := by
  have fx := fin_of_lt double (x := x) (by rw [d_inf]; exact hx)
  have fy := fin_of_lt double (x := 4611686018427387904) (by rw [d_inf]; omega)
  have ry : rg double 4611686018427387904 = 4611686018427387904 := rg_of_le double (by rw [d_inf]; omega)
  have rx : rg double x = x := rg_of_le double (by rw [d_inf]; omega)
  obtain ⟨q, h1, h2⟩ := div_spec d_hf fx fy (by rw [ry]; omega)
  rw [sg_of_le double (by rw [d_inf]; omega), sg_of_le double (by rw [d_inf]; omega)] at h1
  rw [rx, ry, rv_d2] at h2
  have hu := rv_up double (x - 4503599627370496) (by rw [d_bin]; omega)
  rw [d_bin, show x - 4503599627370496 + 4503599627370496 = x by omega] at hu
  have hv : rv double x / 2 = rv double (x - 4503599627370496) := by
    rw [hu, Rat.mul_comm, Rat.mul_div_cancel (by decide)]
  rw [hv] at h2
  exact fA_near h1 (h2.uniq (Near.exact _ _)) (by omega)
theorem dbl_word {x : Nat} (h : 4503599627370496 ≤ x) (hx : x < 9214364837600034816) : (floatBits .mul .f64 x 4611686018427387904).isSome = true ∧ fA .mul .f64 x 4611686018427387904 = x + 4503599627370496 := by
  have fx := fin_of_lt double (x := x) (by rw [d_inf]; omega)
  have fy := fin_of_lt double (x := 4611686018427387904) (by rw [d_inf]; omega)
  have ry : rg double 4611686018427387904 = 4611686018427387904 := rg_of_le double (by rw [d_inf]; omega)
  have rx : rg double x = x := rg_of_le double (by rw [d_inf]; omega)
  obtain ⟨q, h1, h2⟩ := mul_spec d_hf fx fy
  rw [sg_of_le double (by rw [d_inf]; omega), sg_of_le double (by rw [d_inf]; omega)] at h1
  rw [rx, ry, rv_d2] at h2
  have hu := rv_up double x (by rw [d_bin]; omega)
  rw [d_bin] at hu
  rw [Rat.mul_comm, ← hu] at h2
  exact fA_near h1 (h2.uniq (Near.exact _ _)) (by omega)

/-- How often the number is halved, and doubled. -/
def lnN1 (X : Nat) : Nat := (X + 4503599627370496 - 4609434218613702656) / 4503599627370496
def lnY (X : Nat) : Nat := X - lnN1 X * 4503599627370496
def lnN2 (X : Nat) : Nat := (4604930618986332160 - lnY X + 4503599627370495) / 4503599627370496
def lnZ (X : Nat) : Nat := lnY X + lnN2 X * 4503599627370496
def lnE (X : Nat) : Int := (lnN1 X : Int) - lnN2 X
theorem lnN1_lt {X k : Nat} (h : k < lnN1 X) : 4609434218613702656 ≤ X - k * 4503599627370496 := by unfold lnN1 at h; omega
theorem lnN1_ge {X : Nat} : ¬ 4609434218613702656 ≤ lnY X := by unfold lnY lnN1; omega
theorem lnN2_lt {X k : Nat} (h : k < lnN2 X) : lnY X + k * 4503599627370496 < 4604930618986332160 := by unfold lnN2 at h; omega
theorem lnN2_ge {X : Nat} : ¬ lnZ X < 4604930618986332160 := by unfold lnZ lnN2; omega
theorem lnZ_lt {X : Nat} : lnZ X < 4609434218613702656 := by
  have := lnN1_ge (X := X)
  unfold lnZ lnN2; omega
theorem lnN_bd {X : Nat} (h1 : 3936146074321813504 ≤ X) (h2 : X ≤ 5183643171103440896) : lnN1 X ≤ 130 ∧ lnN2 X ≤ 150 ∧ 3936146074321813504 ≤ lnY X := by
  unfold lnN2 lnY lnN1; omega

theorem foi_up : ∀ k : Nat, k < 400 → floatBits .add .f64 (floatOfInt .f64 ((k : Int) - 200)) 4607182418800017408 = some (floatOfInt .f64 ((k : Int) - 199)) := by decide +kernel
theorem foi_dn : ∀ k : Nat, k < 400 → floatBits .sub .f64 (floatOfInt .f64 ((k : Int) - 199)) 4607182418800017408 = some (floatOfInt .f64 ((k : Int) - 200)) := by decide +kernel
theorem foi_add {n : Int} (h1 : -200 ≤ n) (h2 : n < 200) : (floatBits .add .f64 (floatOfInt .f64 n) 4607182418800017408).isSome = true ∧ fA .add .f64 (floatOfInt .f64 n) 4607182418800017408 = floatOfInt .f64 (n + 1) := by
  have h := foi_up (n + 200).toNat (by omega)
  rw [show (((n + 200).toNat : Nat) : Int) - 200 = n by omega, show (((n + 200).toNat : Nat) : Int) - 199 = n + 1 by omega] at h
  exact fA_of h
theorem foi_sub {n : Int} (h1 : -199 ≤ n) (h2 : n < 200) : (floatBits .sub .f64 (floatOfInt .f64 n) 4607182418800017408).isSome = true ∧ fA .sub .f64 (floatOfInt .f64 n) 4607182418800017408 = floatOfInt .f64 (n - 1) := by
  have h := foi_dn (n + 199).toNat (by omega)
  rw [show (((n + 199).toNat : Nat) : Int) - 200 = n - 1 by omega, show (((n + 199).toNat : Nat) : Int) - 199 = n by omega] at h
  exact fA_of h
theorem foi_bd8 : ∀ k : Nat, k < 400 → rg double (floatOfInt .f64 ((k : Int) - 200)) ≤ WK .f64 8 := by decide +kernel

def lnS (z : Nat) : Nat := fA .quo .f64 (fA .sub .f64 z 4607182418800017408) (fA .add .f64 z 4607182418800017408)
/-- The sum of the row's first j terms, from the last one on. -/
def lnQ (u : Nat) : Nat → Nat
  | 0 => 0
  | j + 1 => fA .add .f64 (fA .quo .f64 4607182418800017408 (floatOfInt .f64 (25 - 2 * (j : Int)))) (fA .mul .f64 u (lnQ u j))
def lnR (z : Nat) (e : Int) : Nat := fA .add .f64 (fA .mul .f64 4611686018427387904 (fA .mul .f64 (lnS z) (lnQ (fA .mul .f64 (lnS z) (lnS z)) 13))) (fA .mul .f64 (floatOfInt .f64 e) 4604418534313441775)
/-- The logarithm of the double word X. -/
def lnW (X : Nat) : Nat := lnR (lnZ X) (lnE X)

theorem sv_one : sv double 4607182418800017408 = 1 := by
  have h := rv_WK .f64 0
  have e : WK .f64 0 = 4607182418800017408 := by decide
  rw [e] at h
  rw [sv_of_le double (by rw [d_inf]; omega)]
  rw [show (FloatKind.f64.format) = double from rfl] at h
  rw [h]; decide +kernel
theorem sv_075 : sv double 4604930618986332160 = 3 / 4 := by
  rw [sv_of_le double (by rw [d_inf]; omega)]
  have h := rv_at double 1021 6755399441055744 (.inr ⟨by rw [d_bin]; omega, by rw [d_bin]; omega⟩)
  rw [d_bin] at h
  rw [show (4604930618986332160 : Nat) = 1021 * 4503599627370496 + 6755399441055744 by omega, h]
  decide +kernel
theorem sv_15 : sv double 4609434218613702656 = 3 / 2 := by
  rw [sv_of_le double (by rw [d_inf]; omega)]
  have h := rv_at double 1022 6755399441055744 (.inr ⟨by rw [d_bin]; omega, by rw [d_bin]; omega⟩)
  rw [d_bin] at h
  rw [show (4609434218613702656 : Nat) = 1022 * 4503599627370496 + 6755399441055744 by omega, h]
  decide +kernel
theorem bd_one : Bd .f64 0 4607182418800017408 := Bd.of (by decide)
/-- What is reckoned of z gives numbers. -/
theorem ln_first {z : Nat} (h1 : 4604930618986332160 ≤ z) (h2 : z < 4609434218613702656) :
    (floatBits .sub .f64 z 4607182418800017408).isSome = true ∧ (floatBits .add .f64 z 4607182418800017408).isSome = true ∧ (floatBits .quo .f64 (fA .sub .f64 z 4607182418800017408) (fA .add .f64 z 4607182418800017408)).isSome = true ∧ Bd .f64 0 (lnS z) := by
  have hz : Bd .f64 1 z := Bd.of (by
    rw [show FloatKind.f64.format = double from rfl, rg_of_le double (by rw [d_inf]; omega)]
    have : WK .f64 1 = 4611686018427387904 := by decide
    omega)
  have g1 : (3 : Rat) / 4 ≤ sv double z := by
    rw [← sv_075, sv_of_le double (by rw [d_inf]; omega), sv_of_le double (by rw [d_inf]; omega)]
    exact rv_le _ h1
  have g2 : sv double z ≤ 3 / 2 := by
    rw [← sv_15, sv_of_le double (by rw [d_inf]; omega), sv_of_le double (by rw [d_inf]; omega)]
    exact rv_le _ (by omega)
  obtain ⟨a1, _, a3⟩ := bd_sub hz (bd_one.mono (by omega)) (by decide)
  obtain ⟨b1, b2, b3⟩ := bd_add hz (bd_one.mono (by omega)) (by decide)
  rw [show FloatKind.f64.format = double from rfl, sv_one] at a3 b3
  have p10 : pv 1 ((0 : Nat) : Int) = 1 := by decide +kernel
  have a4 : Bd .f64 0 (fA .sub .f64 z 4607182418800017408) := bd_rnd a3 (by rw [p10]; unfold av; split <;> grind)
  have hge := b3.ge (K := 4607182418800017408) (by rw [d_inf]; omega) (by
    have e := rv_WK .f64 0
    rw [show WK .f64 0 = 4607182418800017408 by decide, p10] at e
    rw [show rv double 4607182418800017408 = 1 from e, av_of_nonneg (by grind)]; grind)
  have b4 : 1 ≤ av (sv double (fA .add .f64 z 4607182418800017408)) := by
    rw [av_sv]
    have e := rv_WK .f64 0
    rw [show WK .f64 0 = 4607182418800017408 by decide, p10] at e
    rw [← show rv double 4607182418800017408 = 1 from e]
    exact rv_le _ hge
  obtain ⟨c1, c2, _⟩ := bd_div (k := .f64) a4 (b2.fnt (by decide)) b4 (by decide)
  exact ⟨a1, b1, c1, c2⟩
theorem inv_odd : ∀ j : Nat, j < 13 → (floatBits .quo .f64 4607182418800017408 (floatOfInt .f64 (25 - 2 * (j : Int)))).isSome = true ∧ rg double (fA .quo .f64 4607182418800017408 (floatOfInt .f64 (25 - 2 * (j : Int)))) ≤ WK .f64 0 := by decide +kernel
theorem lnQ_bd {u : Nat} (hu : Bd .f64 0 u) : ∀ j, j ≤ 13 → Bd .f64 j (lnQ u j) := by
  intro j
  induction j with
  | zero => intro _; exact Bd.of (show rg double 0 ≤ WK .f64 0 by decide)
  | succ j ih =>
    intro hj
    have h1 := ih (by omega)
    obtain ⟨_, m2, _⟩ := bd_mul hu h1 (by decide) (by show j ≤ 1023; omega)
    rw [Nat.zero_add] at m2
    exact (bd_add ((Bd.of (inv_odd j (by omega)).2 : Bd .f64 0 _).mono (Nat.zero_le j)) m2 (by show j + 1 ≤ 1023; omega)).2.1
theorem lnQ_step {u : Nat} (hu : Bd .f64 0 u) {j : Nat} (hj : j < 13) : (floatBits .mul .f64 u (lnQ u j)).isSome = true ∧ (floatBits .quo .f64 4607182418800017408 (floatOfInt .f64 (25 - 2 * (j : Int)))).isSome = true ∧
    (floatBits .add .f64 (fA .quo .f64 4607182418800017408 (floatOfInt .f64 (25 - 2 * (j : Int)))) (fA .mul .f64 u (lnQ u j))).isSome = true := by
  have h1 := lnQ_bd hu j (by omega)
  obtain ⟨m1, m2, _⟩ := bd_mul hu h1 (by decide) (by show j ≤ 1023; omega)
  rw [Nat.zero_add] at m2
  exact ⟨m1, (inv_odd j hj).1, (bd_add ((Bd.of (inv_odd j hj).2 : Bd .f64 0 _).mono (Nat.zero_le j)) m2 (by show j + 1 ≤ 1023; omega)).1⟩
/-- The last steps. -/
theorem ln_last {s q : Nat} {e : Int} (hs : Bd .f64 0 s) (hq : Bd .f64 13 q) (h1 : -200 ≤ e) (h2 : e < 200) : (floatBits .mul .f64 s q).isSome = true ∧ (floatBits .mul .f64 4611686018427387904 (fA .mul .f64 s q)).isSome = true ∧ (floatBits .mul .f64 (floatOfInt .f64 e) 4604418534313441775).isSome = true ∧
    (floatBits .add .f64 (fA .mul .f64 4611686018427387904 (fA .mul .f64 s q)) (fA .mul .f64 (floatOfInt .f64 e) 4604418534313441775)).isSome = true ∧ Bd .f64 15 (fA .add .f64 (fA .mul .f64 4611686018427387904 (fA .mul .f64 s q)) (fA .mul .f64 (floatOfInt .f64 e) 4604418534313441775)) := by
  obtain ⟨a1, a2, _⟩ := bd_mul hs hq (by decide) (by decide)
  obtain ⟨b1, b2, _⟩ := bd_mul (Bd.of (by decide) : Bd .f64 1 4611686018427387904) a2 (by decide) (by decide)
  have he : Bd .f64 8 (floatOfInt .f64 e) := by
    have := foi_bd8 (e + 200).toNat (by omega)
    rw [show (((e + 200).toNat : Nat) : Int) - 200 = e by omega] at this
    exact Bd.of this
  obtain ⟨c1, c2, _⟩ := bd_mul he (Bd.of (by decide) : Bd .f64 0 4604418534313441775) (by decide) (by decide)
  obtain ⟨d1, d2, _⟩ := bd_add b2 (c2.mono (by decide)) (by decide)
  exact ⟨a1, b1, c1, d1, d2⟩
theorem lnU_bd {z : Nat} (h1 : 4604930618986332160 ≤ z) (h2 : z < 4609434218613702656) : (floatBits .mul .f64 (lnS z) (lnS z)).isSome = true ∧ Bd .f64 0 (fA .mul .f64 (lnS z) (lnS z)) := by
  obtain ⟨_, _, _, hs⟩ := ln_first h1 h2
  obtain ⟨a1, a2, _⟩ := bd_mul hs hs (by decide) (by decide)
  exact ⟨a1, a2⟩
theorem lnW_bd {X : Nat} (h1 : 3936146074321813504 ≤ X) (h2 : X ≤ 5183643171103440896) : Bd .f64 15 (lnW X) := by
  have hz1 := lnN2_ge (X := X)
  have hz2 := lnZ_lt (X := X)
  obtain ⟨b1, b2, _⟩ := lnN_bd h1 h2
  obtain ⟨_, _, _, hs⟩ := ln_first (z := lnZ X) (by omega) hz2
  obtain ⟨_, hu⟩ := lnU_bd (z := lnZ X) (by omega) hz2
  exact (ln_last hs (lnQ_bd hu 13 (by omega)) (by unfold lnE; omega) (by unfold lnE; omega)).2.2.2.2

/-- The double word of a single one. -/
def up64 (x : Nat) : Nat := (floatToFloatBits .f32 x .f64).getD 0
theorem up64_pos {x : Nat} (h0 : 0 < x) (hx : x < 2139095040) : floatToFloatBits .f32 x .f64 = some (up64 x) ∧ 3936146074321813504 ≤ up64 x ∧ up64 x < 5183643171103440896 := by
  have hf := fin_of_lt single (x := x) (by rw [s_inf]; exact hx)
  obtain ⟨r, h1, h2, h3, h4⟩ := conv_up hf
  rw [sg_of_le single (by rw [s_inf]; omega)] at h3
  rw [rg_of_le single (by rw [s_inf]; omega)] at h4
  have hu : up64 x = r := by unfold up64; rw [h1]; rfl
  rw [hu]
  have hw := floatToFloatBits_wf (show (Lit.float .f32 x).wf = true by simp [Lit.wf]; omega) h1
  have hr64 : r < 18446744073709551616 := by simpa [Lit.wf] using hw
  have hrg : rg double r = r := by
    unfold sg at h3
    rw [d_sw] at h3
    unfold rg
    rw [d_sw]
    have : ¬ r / 9223372036854775808 % 2 = 1 := by simpa using h3
    omega
  rw [hrg] at h4
  refine ⟨h1, ?_, ?_⟩
  · refine (rv_le_iff double).1 ?_
    rw [h4]
    have k1 : rv double 3936146074321813504 = pv 1 (-149) := by
      have h := rv_at double 873 4503599627370496 (.inr ⟨by rw [d_bin]; omega, by rw [d_bin]; omega⟩)
      rw [d_bin] at h
      rw [show (3936146074321813504 : Nat) = 873 * 4503599627370496 + 4503599627370496 by omega, h, show (4503599627370496 : Nat) = 1 * 2 ^ 52 by decide, pv_shift]
      decide +kernel
    have k2 : rv single 1 = pv 1 (-149) := by
      have h := rv_at single 0 1 (.inl ⟨rfl, by decide⟩)
      rw [Nat.zero_mul, Nat.zero_add] at h
      rw [h]; decide +kernel
    rw [k1, ← k2]
    exact rv_le _ h0
  · refine (rv_lt_iff double).1 ?_
    rw [h4, rv_d_128, ← rv_s_inf]
    exact rv_lt _ hx
/-- The logarithm of a single word, narrowed. -/
def lnF (x : Nat) : Nat := (floatToFloatBits .f64 (lnW (up64 x)) .f32).getD 0
theorem lnF_some {x : Nat} (h0 : 0 < x) (hx : x < 2139095040) : floatToFloatBits .f64 (lnW (up64 x)) .f32 = some (lnF x) ∧ Bd .f32 15 (lnF x) ∧ Rnd single (sv double (lnW (up64 x))) (lnF x) := by
  obtain ⟨_, h1, h2⟩ := up64_pos h0 hx
  obtain ⟨r, r1, r2, r3⟩ := conv_down (lnW_bd h1 (by omega)) (by omega)
  have : lnF x = r := by unfold lnF; rw [r1]; rfl
  rw [this]
  exact ⟨r1, r2, r3⟩

end Go.Proofs.YtimhljcebeiofaaGreatDoor
