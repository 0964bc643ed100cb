/- Bounds of floats by powers of two, at both precisions. Plain: no program. -/
import Derived.Test.YtmocfnpbofeiiaaMFw
namespace Go.Proofs.Ytmocfnpbofeiiaa
set_option linter.unusedSimpArgs false
set_option linter.unusedVariables false
open Ieee

def bias : FloatKind → Nat
  | .f32 => 127
  | .f64 => 1023
/-- The word of 2 to the power of e. -/
def WK (k : FloatKind) (e : Nat) : Nat := (bias k + e) * k.format.binade
theorem k_hf (k : FloatKind) : 1 ≤ k.format.fractionBits := by cases k <;> decide
theorem k_inf (k : FloatKind) : k.format.infRung = (2 * bias k + 1) * k.format.binade := by cases k <;> decide
theorem rv_WK (k : FloatKind) (e : Nat) : rv k.format (WK k e) = pv 1 e := by
  have h := rv_at k.format (bias k - 1 + e) k.format.binade (.inr ⟨Nat.le_refl _, by have := binade_pos k.format; omega⟩)
  have hb : 1 ≤ bias k := by cases k <;> decide
  have hW : (bias k - 1 + e) * k.format.binade + k.format.binade = WK k e := by
    unfold WK
    rw [show bias k + e = (bias k - 1 + e) + 1 by omega, Nat.add_mul _ 1, Nat.one_mul]
  have hS := pv_shift 1 k.format.fractionBits (k.format.leastPlace + ((bias k - 1 + e : Nat) : Int))
  have h2 : 1 * 2 ^ k.format.fractionBits = k.format.binade := Nat.one_mul _
  rw [h2] at hS
  have h3 : k.format.leastPlace = 1 - (bias k : Int) - (k.format.fractionBits : Int) := by cases k <;> decide
  have h4 : k.format.leastPlace + ((bias k - 1 + e : Nat) : Int) + (k.format.fractionBits : Int) = (e : Int) := by rw [h3]; omega
  rw [h4] at hS
  rw [← hW, h, hS]
/-- At most 2 to the power of e, without its sign. -/
def Bd (k : FloatKind) (e : Nat) (x : Nat) : Prop := av (sv k.format x) ≤ pv 1 e
theorem Bd.le {k : FloatKind} {e : Nat} {x : Nat} (h : Bd k e x) : rg k.format x ≤ WK k e := by
  unfold Bd at h
  rw [av_sv, ← rv_WK] at h
  exact (rv_le_iff _).1 h
theorem Bd.of {k : FloatKind} {e : Nat} {x : Nat} (h : rg k.format x ≤ WK k e) : Bd k e x := by
  unfold Bd
  rw [av_sv, ← rv_WK]
  exact rv_le _ h
theorem WK_lt {k : FloatKind} {e : Nat} (he : e ≤ bias k) : WK k e < k.format.infRung := by
  rw [k_inf]; unfold WK
  exact Nat.mul_lt_mul_of_pos_right (by omega) (binade_pos _)
theorem Bd.fnt {k : FloatKind} {e : Nat} {x : Nat} (h : Bd k e x) (he : e ≤ bias k) : Fnt k.format x := Nat.lt_of_le_of_lt h.le (WK_lt he)
theorem p2_le {a b : Nat} (h : a ≤ b) : pv 1 (a : Int) ≤ pv 1 (b : Int) := pv_mono_place (by omega)
theorem Bd.mono {k : FloatKind} {e e' : Nat} {x : Nat} (h : Bd k e x) (he : e ≤ e') : Bd k e' x := by
  unfold Bd at *
  exact Rat.le_trans h (p2_le he)
theorem bd_rnd {k : FloatKind} {e : Nat} {v : Rat} {w : Nat} (h : Rnd k.format v w) (hv : av v ≤ pv 1 e) : Bd k e w :=
  Bd.of (h.le (by rw [rv_WK]; exact hv))
theorem p2_dbl (e : Nat) : pv 1 ((e + 1 : Nat) : Int) = pv 1 e + pv 1 e := by
  rw [← pv_add, show (1 + 1 : Nat) = 1 * 2 ^ 1 from rfl, pv_shift]; congr 1
theorem bd_add {k : FloatKind} {e : Nat} {x y : Nat} (hx : Bd k e x) (hy : Bd k e y) (he : e + 1 ≤ bias k) : (floatBits .add k x y).isSome = true ∧ Bd k (e + 1) (fA .add k x y) ∧ Rnd k.format (sv k.format x + sv k.format y) (fA .add k x y) := by
  obtain ⟨w, h1, h2, _⟩ := add_spec (k_hf k) (hx.fnt (by omega)) (hy.fnt (by omega))
  obtain ⟨a1, a2⟩ := fA_of (op := .add) (k := k) h1
  rw [a2]
  refine ⟨a1, bd_rnd h2 ?_, h2⟩
  have := av_add (sv k.format x) (sv k.format y)
  rw [p2_dbl]
  unfold Bd at hx hy
  grind
theorem bd_sub {k : FloatKind} {e : Nat} {x y : Nat} (hx : Bd k e x) (hy : Bd k e y) (he : e + 1 ≤ bias k) : (floatBits .sub k x y).isSome = true ∧ Bd k (e + 1) (fA .sub k x y) ∧ Rnd k.format (sv k.format x - sv k.format y) (fA .sub k x y) := by
  obtain ⟨w, h1, h2, _⟩ := sub_spec (k_hf k) (hx.fnt (by omega)) (hy.fnt (by omega))
  obtain ⟨a1, a2⟩ := fA_of (op := .sub) (k := k) h1
  rw [a2]
  refine ⟨a1, bd_rnd h2 ?_, h2⟩
  have := av_add (sv k.format x) (-sv k.format y)
  rw [av_neg] at this
  rw [p2_dbl, Rat.sub_eq_add_neg]
  unfold Bd at hx hy
  grind
theorem av_mul (a b : Rat) : av (a * b) = av a * av b := by
  have key : ∀ a b : Rat, 0 ≤ a → av (a * b) = a * av b := by
    intro a b ha
    by_cases hb : b < 0
    · have h1 : 0 ≤ a * -b := Rat.mul_nonneg ha (by grind)
      have e : a * b = -(a * -b) := by rw [Rat.mul_neg, Rat.neg_neg]
      rw [e, av_neg, av_of_nonneg h1]
      unfold av; rw [if_pos hb]
    · have h1 : 0 ≤ a * b := Rat.mul_nonneg ha (by grind)
      rw [av_of_nonneg h1, av_of_nonneg (by grind)]
  by_cases ha : a < 0
  · have e : a * b = -(-a * b) := by rw [Rat.neg_mul, Rat.neg_neg]
    rw [e, av_neg, key (-a) b (by grind)]
    congr 1
    unfold av; rw [if_pos ha]
  · rw [key a b (by grind), av_of_nonneg (by grind : 0 ≤ a)]
theorem bd_mul {k : FloatKind} {a b : Nat} {x y : Nat} (hx : Bd k a x) (hy : Bd k b y) (ha : a ≤ bias k) (hb : b ≤ bias k) : (floatBits .mul k x y).isSome = true ∧ Bd k (a + b) (fA .mul k x y) ∧ Rnd k.format (sv k.format x * sv k.format y) (fA .mul k x y) := by
  obtain ⟨w, h1, h2⟩ := mul_rnd (k_hf k) (hx.fnt ha) (hy.fnt hb)
  obtain ⟨a1, a2⟩ := fA_of (op := .mul) (k := k) h1
  rw [a2]
  refine ⟨a1, bd_rnd h2 ?_, h2⟩
  rw [av_mul]
  have e : pv 1 ((a + b : Nat) : Int) = pv 1 a * pv 1 b := by rw [pv_mul]; rfl
  rw [e]
  exact Rat.le_trans (Rat.mul_le_mul_of_nonneg_right hx (av_nonneg _)) (Rat.mul_le_mul_of_nonneg_left hy (pv_nonneg _ _))
theorem av_div_le {a b c : Rat} (hb : 1 ≤ av b) (ha : av a ≤ c) : av (a / b) ≤ c := by
  have hb0 : b ≠ 0 := by
    rintro rfl
    have : av 0 = 0 := rfl
    grind
  have e : av (a / b) * av b = av a := by rw [← av_mul, Rat.div_mul_cancel hb0]
  have h0 := av_nonneg (a / b)
  have := Rat.mul_le_mul_of_nonneg_left hb h0
  grind
theorem bd_div {k : FloatKind} {e : Nat} {x y : Nat} (hx : Bd k e x) (hy : Fnt k.format y) (h1 : 1 ≤ av (sv k.format y)) (he : e ≤ bias k) : (floatBits .quo k x y).isSome = true ∧ Bd k e (fA .quo k x y) ∧ Rnd k.format (sv k.format x / sv k.format y) (fA .quo k x y) := by
  have hy0 : rg k.format y ≠ 0 := by
    intro h
    rw [av_sv, h, rv_zero] at h1
    exact absurd h1 (by decide)
  obtain ⟨w, h2, h3⟩ := div_rnd (k_hf k) (hx.fnt he) hy hy0
  obtain ⟨a1, a2⟩ := fA_of (op := .quo) (k := k) h2
  rw [a2]
  exact ⟨a1, bd_rnd h3 (av_div_le h1 hx), h3⟩
/-- Double to single precision: within its bounds the nearest one. -/
theorem conv_down {x e : Nat} (hx : Bd .f64 e x) (he : e ≤ 127) : ∃ r, floatToFloatBits .f64 x .f32 = some r ∧ Bd .f32 e r ∧ Rnd single (sv double x) r := by
  have hf := hx.fnt (by show e ≤ 1023; omega)
  obtain ⟨m, p, e1, e2⟩ := read_fin double x hf
  have hr : Rnd single (sv double x) (single.nearest (sg double x) m p) := by
    refine nearest_rnd single s_hf _ _ _ _ ?_ (fun h => ?_) (fun h => ?_)
    · rw [av_sv]; exact e2.symm
    · have := rv_nonneg double (rg double x)
      unfold sv at h
      cases hs : sg double x
      · rfl
      · rw [hs] at h; simp only [if_true] at h; grind
    · have := rv_nonneg double (rg double x)
      unfold sv at h
      cases hs : sg double x
      · rw [hs] at h; simp only [Bool.false_eq_true, if_false] at h; grind
      · rfl
  have hb : Bd .f32 e (single.nearest (sg double x) m p) := bd_rnd (k := .f32) hr (by exact hx)
  refine ⟨single.nearest (sg double x) m p, ?_, hb, hr⟩
  have hd : FloatKind.decode .f64 x = .number (sg double x) m p := e1
  have hen : FloatKind.encode .f32 (.number (sg double x) m p) = single.nearest (sg double x) m p := rfl
  unfold floatToFloatBits
  rw [if_neg (by decide), hd]
  simp only [hen]
  obtain ⟨m', p', k1, _⟩ := read_fin single _ (hb.fnt he)
  have hdd : FloatKind.decode .f32 (single.nearest (sg double x) m p) = .number (sg single (single.nearest (sg double x) m p)) m' p' := k1
  rw [hdd]
  simp [Datum.isInfinity]

end Go.Proofs.Ytmocfnpbofeiiaa

/- The natural logarithm as both packages reckon it: the steps, and that each of them gives a number. Plain: no program. -/
namespace Go.Proofs.Ytmocfnpbofeiiaa
set_option linter.unusedSimpArgs false
set_option linter.unusedVariables false
open Ieee

theorem order_dd {x y : Nat} (hx : x < 9218868437227405312) (hy : y < 9218868437227405312) : double.order x y = some (compare x y) := by
  have fx := fin_of_lt double (x := x) (by rw [d_inf]; exact hx)
  have fy := fin_of_lt double (x := y) (by rw [d_inf]; exact hy)
  obtain ⟨o1, o2, o3⟩ := order_fin fx fy
  rw [sv_of_le double (by rw [d_inf]; omega), sv_of_le double (by rw [d_inf]; omega)] at o1 o2 o3
  by_cases hlt : x < y
  · rw [Nat.compare_eq_lt.2 hlt]; exact o1.2 (rv_lt _ hlt)
  · by_cases heq : x = y
    · rw [Nat.compare_eq_eq.2 heq]; exact o2.2 (by rw [heq])
    · rw [Nat.compare_eq_gt.2 (by omega)]; exact o3.2 (rv_lt _ (by omega))
/-- A binade up: twice the value. -/
theorem rv_up (f : Format) (x : Nat) (h : f.binade ≤ x) : rv f (x + f.binade) = 2 * rv f x := by
  have hB := binade_pos f
  have hm := Nat.mod_lt x hB
  have hd := Nat.div_add_mod x f.binade
  have hq : 1 ≤ x / f.binade := (Nat.one_le_div_iff hB).2 h
  obtain ⟨t, ht⟩ : ∃ t, x / f.binade = t + 1 := ⟨x / f.binade - 1, by omega⟩
  rw [ht] at hd
  have e : x = t * f.binade + (f.binade + x % f.binade) := by rw [Nat.mul_add, Nat.mul_one, Nat.mul_comm] at hd; omega
  have h1 := rv_at f t (f.binade + x % f.binade) (.inr ⟨by omega, by omega⟩)
  have h2 := rv_at f (t + 1) (f.binade + x % f.binade) (.inr ⟨by omega, by omega⟩)
  rw [← e] at h1
  rw [show (t + 1) * f.binade + (f.binade + x % f.binade) = x + f.binade by rw [Nat.add_mul, Nat.one_mul]; omega] at h2
  rw [h1, h2, show f.leastPlace + ((t + 1 : Nat) : Int) = (f.leastPlace + t) + ((1 : Nat) : Int) by omega, ← pv_shift, pv_double]
  congr 1; omega
theorem d_bin : double.binade = 4503599627370496 := by decide
theorem rv_d2 : rv double 4611686018427387904 = 2 := by
  have h := rv_WK .f64 1
  have e : WK .f64 1 = 4611686018427387904 := by decide
  rw [e] at h
  rw [show (FloatKind.f64.format) = double from rfl] at h
  rw [h]; decide +kernel
theorem fA_near {op : BinOp} {q x y r : Nat} (h : floatBits op .f64 x y = some (double.word false (min q double.infRung))) (hq : q = r) (hr : r < 9218868437227405312) : (floatBits op .f64 x y).isSome = true ∧ fA op .f64 x y = r := by
  obtain ⟨h1, h2⟩ := fA_of h
  refine ⟨h1, ?_⟩
  rw [h2, word_false, hq, d_inf]
  exact Nat.min_eq_left (by omega)
theorem half_word {x : Nat} (h : 9007199254740992 ≤ x) (hx : x < 9218868437227405312) : (floatBits .quo .f64 x 4611686018427387904).isSome = true ∧ fA .quo .f64 x 4611686018427387904 = x - 4503599627370496 := by
  have fx := fin_of_lt double (x := x) (by rw [d_inf]; exact hx)
  have fy := fin_of_lt double (x := 4611686018427387904) (by rw [d_inf]; omega)
  have ry : rg double 4611686018427387904 = 4611686018427387904 := rg_of_le double (by rw [d_inf]; omega)
  have rx : rg double x = x := rg_of_le double (by rw [d_inf]; omega)
  obtain ⟨q, h1, h2⟩ := div_spec d_hf fx fy (by rw [ry]; omega)
  rw [sg_of_le double (by rw [d_inf]; omega), sg_of_le double (by rw [d_inf]; omega)] at h1
  rw [rx, ry, rv_d2] at h2
  have hu := rv_up double (x - 4503599627370496) (by rw [d_bin]; omega)
  rw [d_bin, show x - 4503599627370496 + 4503599627370496 = x by omega] at hu
  have hv : rv double x / 2 = rv double (x - 4503599627370496) := by
    rw [hu, Rat.mul_comm, Rat.mul_div_cancel (by decide)]
  rw [hv] at h2
  exact fA_near h1 (h2.uniq (Near.exact _ _)) (by omega)
theorem dbl_word {x : Nat} (h : 4503599627370496 ≤ x) (hx : x < 9214364837600034816) : (floatBits .mul .f64 x 4611686018427387904).isSome = true ∧ fA .mul .f64 x 4611686018427387904 = x + 4503599627370496 := by
  have fx := fin_of_lt double (x := x) (by rw [d_inf]; omega)
  have fy := fin_of_lt double (x := 4611686018427387904) (by rw [d_inf]; omega)
  have ry : rg double 4611686018427387904 = 4611686018427387904 := rg_of_le double (by rw [d_inf]; omega)
  have rx : rg double x = x := rg_of_le double (by rw [d_inf]; omega)
  obtain ⟨q, h1, h2⟩ := mul_spec d_hf fx fy
  rw [sg_of_le double (by rw [d_inf]; omega), sg_of_le double (by rw [d_inf]; omega)] at h1
  rw [rx, ry, rv_d2] at h2
  have hu := rv_up double x (by rw [d_bin]; omega)
  rw [d_bin] at hu
  rw [Rat.mul_comm, ← hu] at h2
  exact fA_near h1 (h2.uniq (Near.exact _ _)) (by omega)

/-- How often the number is halved, and doubled. -/
def lnN1 (X : Nat) : Nat := (X + 4503599627370496 - 4609434218613702656) / 4503599627370496
def lnY (X : Nat) : Nat := X - lnN1 X * 4503599627370496
def lnN2 (X : Nat) : Nat := (4604930618986332160 - lnY X + 4503599627370495) / 4503599627370496
def lnZ (X : Nat) : Nat := lnY X + lnN2 X * 4503599627370496
def lnE (X : Nat) : Int := (lnN1 X : Int) - lnN2 X
theorem lnN1_lt {X k : Nat} (h : k < lnN1 X) : 4609434218613702656 ≤ X - k * 4503599627370496 := by unfold lnN1 at h; omega
theorem lnN1_ge {X : Nat} : ¬ 4609434218613702656 ≤ lnY X := by unfold lnY lnN1; omega
theorem lnN2_lt {X k : Nat} (h : k < lnN2 X) : lnY X + k * 4503599627370496 < 4604930618986332160 := by unfold lnN2 at h; omega
theorem lnN2_ge {X : Nat} : ¬ lnZ X < 4604930618986332160 := by unfold lnZ lnN2; omega
theorem lnZ_lt {X : Nat} : lnZ X < 4609434218613702656 := by
  have := lnN1_ge (X := X)
  unfold lnZ lnN2; omega
theorem lnN_bd {X : Nat} (h1 : 3936146074321813504 ≤ X) (h2 : X ≤ 5183643171103440896) : lnN1 X ≤ 130 ∧ lnN2 X ≤ 150 ∧ 3936146074321813504 ≤ lnY X := by
  unfold lnN2 lnY lnN1; omega

theorem foi_up : ∀ k : Nat, k < 400 → floatBits .add .f64 (floatOfInt .f64 ((k : Int) - 200)) 4607182418800017408 = some (floatOfInt .f64 ((k : Int) - 199)) := by decide +kernel
theorem foi_dn : ∀ k : Nat, k < 400 → floatBits .sub .f64 (floatOfInt .f64 ((k : Int) - 199)) 4607182418800017408 = some (floatOfInt .f64 ((k : Int) - 200)) := by decide +kernel
theorem foi_add {n : Int} (h1 : -200 ≤ n) (h2 : n < 200) : (floatBits .add .f64 (floatOfInt .f64 n) 4607182418800017408).isSome = true ∧ fA .add .f64 (floatOfInt .f64 n) 4607182418800017408 = floatOfInt .f64 (n + 1) := by
  have h := foi_up (n + 200).toNat (by omega)
  rw [show (((n + 200).toNat : Nat) : Int) - 200 = n by omega, show (((n + 200).toNat : Nat) : Int) - 199 = n + 1 by omega] at h
  exact fA_of h
theorem foi_sub {n : Int} (h1 : -199 ≤ n) (h2 : n < 200) : (floatBits .sub .f64 (floatOfInt .f64 n) 4607182418800017408).isSome = true ∧ fA .sub .f64 (floatOfInt .f64 n) 4607182418800017408 = floatOfInt .f64 (n - 1) := by
  have h := foi_dn (n + 199).toNat (by omega)
  rw [show (((n + 199).toNat : Nat) : Int) - 200 = n - 1 by omega, show (((n + 199).toNat : Nat) : Int) - 199 = n by omega] at h
  exact fA_of h
theorem foi_bd8 : ∀ k : Nat, k < 400 → rg double (floatOfInt .f64 ((k : Int) - 200)) ≤ WK .f64 8 := by decide +kernel

def lnS (z : Nat) : Nat := fA .quo .f64 (fA .sub .f64 z 4607182418800017408) (fA .add .f64 z 4607182418800017408)
/-- The sum of the row's first j terms, from the last one on. -/
def lnQ (u : Nat) : Nat → Nat
  | 0 => 0
  | j + 1 => fA .add .f64 (fA .quo .f64 4607182418800017408 (floatOfInt .f64 (25 - 2 * (j : Int)))) (fA .mul .f64 u (lnQ u j))
def lnR (z : Nat) (e : Int) : Nat := fA .add .f64 (fA .mul .f64 4611686018427387904 (fA .mul .f64 (lnS z) (lnQ (fA .mul .f64 (lnS z) (lnS z)) 13))) (fA .mul .f64 (floatOfInt .f64 e) 4604418534313441775)
/-- The logarithm of the double word X. -/
def lnW (X : Nat) : Nat := lnR (lnZ X) (lnE X)

theorem sv_one : sv double 4607182418800017408 = 1 := by
  have h := rv_WK .f64 0
  have e : WK .f64 0 = 4607182418800017408 := by decide
  rw [e] at h
  rw [sv_of_le double (by rw [d_inf]; omega)]
  rw [show (FloatKind.f64.format) = double from rfl] at h
  rw [h]; decide +kernel
theorem sv_075 : sv double 4604930618986332160 = 3 / 4 := by
  rw [sv_of_le double (by rw [d_inf]; omega)]
  have h := rv_at double 1021 6755399441055744 (.inr ⟨by rw [d_bin]; omega, by rw [d_bin]; omega⟩)
  rw [d_bin] at h
  rw [show (4604930618986332160 : Nat) = 1021 * 4503599627370496 + 6755399441055744 by omega, h]
  decide +kernel
theorem sv_15 : sv double 4609434218613702656 = 3 / 2 := by
  rw [sv_of_le double (by rw [d_inf]; omega)]
  have h := rv_at double 1022 6755399441055744 (.inr ⟨by rw [d_bin]; omega, by rw [d_bin]; omega⟩)
  rw [d_bin] at h
  rw [show (4609434218613702656 : Nat) = 1022 * 4503599627370496 + 6755399441055744 by omega, h]
  decide +kernel
theorem bd_one : Bd .f64 0 4607182418800017408 := Bd.of (by decide)
/-- What is reckoned of z gives numbers. -/
theorem ln_first {z : Nat} (h1 : 4604930618986332160 ≤ z) (h2 : z < 4609434218613702656) :
    (floatBits .sub .f64 z 4607182418800017408).isSome = true ∧ (floatBits .add .f64 z 4607182418800017408).isSome = true ∧ (floatBits .quo .f64 (fA .sub .f64 z 4607182418800017408) (fA .add .f64 z 4607182418800017408)).isSome = true ∧ Bd .f64 0 (lnS z) := by
  have hz : Bd .f64 1 z := Bd.of (by
    rw [show FloatKind.f64.format = double from rfl, rg_of_le double (by rw [d_inf]; omega)]
    have : WK .f64 1 = 4611686018427387904 := by decide
    omega)
  have g1 : (3 : Rat) / 4 ≤ sv double z := by
    rw [← sv_075, sv_of_le double (by rw [d_inf]; omega), sv_of_le double (by rw [d_inf]; omega)]
    exact rv_le _ h1
  have g2 : sv double z ≤ 3 / 2 := by
    rw [← sv_15, sv_of_le double (by rw [d_inf]; omega), sv_of_le double (by rw [d_inf]; omega)]
    exact rv_le _ (by omega)
  obtain ⟨a1, _, a3⟩ := bd_sub hz (bd_one.mono (by omega)) (by decide)
  obtain ⟨b1, b2, b3⟩ := bd_add hz (bd_one.mono (by omega)) (by decide)
  rw [show FloatKind.f64.format = double from rfl, sv_one] at a3 b3
  have p10 : pv 1 ((0 : Nat) : Int) = 1 := by decide +kernel
  have a4 : Bd .f64 0 (fA .sub .f64 z 4607182418800017408) := bd_rnd a3 (by rw [p10]; unfold av; split <;> grind)
  have hge := b3.ge (K := 4607182418800017408) (by rw [d_inf]; omega) (by
    have e := rv_WK .f64 0
    rw [show WK .f64 0 = 4607182418800017408 by decide, p10] at e
    rw [show rv double 4607182418800017408 = 1 from e, av_of_nonneg (by grind)]; grind)
  have b4 : 1 ≤ av (sv double (fA .add .f64 z 4607182418800017408)) := by
    rw [av_sv]
    have e := rv_WK .f64 0
    rw [show WK .f64 0 = 4607182418800017408 by decide, p10] at e
    rw [← show rv double 4607182418800017408 = 1 from e]
    exact rv_le _ hge
  obtain ⟨c1, c2, _⟩ := bd_div (k := .f64) a4 (b2.fnt (by decide)) b4 (by decide)
  exact ⟨a1, b1, c1, c2⟩
theorem inv_odd : ∀ j : Nat, j < 13 → (floatBits .quo .f64 4607182418800017408 (floatOfInt .f64 (25 - 2 * (j : Int)))).isSome = true ∧ rg double (fA .quo .f64 4607182418800017408 (floatOfInt .f64 (25 - 2 * (j : Int)))) ≤ WK .f64 0 := by decide +kernel
theorem lnQ_bd {u : Nat} (hu : Bd .f64 0 u) : ∀ j, j ≤ 13 → Bd .f64 j (lnQ u j) := by
  intro j
  induction j with
  | zero => intro _; exact Bd.of (show rg double 0 ≤ WK .f64 0 by decide)
  | succ j ih =>
    intro hj
    have h1 := ih (by omega)
    obtain ⟨_, m2, _⟩ := bd_mul hu h1 (by decide) (by show j ≤ 1023; omega)
    rw [Nat.zero_add] at m2
    exact (bd_add ((Bd.of (inv_odd j (by omega)).2 : Bd .f64 0 _).mono (Nat.zero_le j)) m2 (by show j + 1 ≤ 1023; omega)).2.1
theorem lnQ_step {u : Nat} (hu : Bd .f64 0 u) {j : Nat} (hj : j < 13) : (floatBits .mul .f64 u (lnQ u j)).isSome = true ∧ (floatBits .quo .f64 4607182418800017408 (floatOfInt .f64 (25 - 2 * (j : Int)))).isSome = true ∧
    (floatBits .add .f64 (fA .quo .f64 4607182418800017408 (floatOfInt .f64 (25 - 2 * (j : Int)))) (fA .mul .f64 u (lnQ u j))).isSome = true := by
  have h1 := lnQ_bd hu j (by omega)
  obtain ⟨m1, m2, _⟩ := bd_mul hu h1 (by decide) (by show j ≤ 1023; omega)
  rw [Nat.zero_add] at m2
  exact ⟨m1, (inv_odd j hj).1, (bd_add ((Bd.of (inv_odd j hj).2 : Bd .f64 0 _).mono (Nat.zero_le j)) m2 (by show j + 1 ≤ 1023; omega)).1⟩
/-- The last steps. -/
theorem ln_last {s q : Nat} {e : Int} (hs : Bd .f64 0 s) (hq : Bd .f64 13 q) (h1 : -200 ≤ e) (h2 : e < 200) : (floatBits .mul .f64 s q).isSome = true ∧ (floatBits .mul .f64 4611686018427387904 (fA .mul .f64 s q)).isSome = true ∧ (floatBits .mul .f64 (floatOfInt .f64 e) 4604418534313441775).isSome = true ∧
    (floatBits .add .f64 (fA .mul .f64 4611686018427387904 (fA .mul .f64 s q)) (fA .mul .f64 (floatOfInt .f64 e) 4604418534313441775)).isSome = true ∧ Bd .f64 15 (fA .add .f64 (fA .mul .f64 4611686018427387904 (fA .mul .f64 s q)) (fA .mul .f64 (floatOfInt .f64 e) 4604418534313441775)) := by
  obtain ⟨a1, a2, _⟩ := bd_mul hs hq (by decide) (by decide)
  obtain ⟨b1, b2, _⟩ := bd_mul (Bd.of (by decide) : Bd .f64 1 4611686018427387904) a2 (by decide) (by decide)
  have he : Bd .f64 8 (floatOfInt .f64 e) := by
    have := foi_bd8 (e + 200).toNat (by omega)
    rw [show (((e + 200).toNat : Nat) : Int) - 200 = e by omega] at this
    exact Bd.of this
  obtain ⟨c1, c2, _⟩ := bd_mul he (Bd.of (by decide) : Bd .f64 0 4604418534313441775) (by decide) (by decide)
  obtain ⟨d1, d2, _⟩ := bd_add b2 (c2.mono (by decide)) (by decide)
  exact ⟨a1, b1, c1, d1, d2⟩
theorem lnU_bd {z : Nat} (h1 : 4604930618986332160 ≤ z) (h2 : z < 4609434218613702656) : (floatBits .mul .f64 (lnS z) (lnS z)).isSome = true ∧ Bd .f64 0 (fA .mul .f64 (lnS z) (lnS z)) := by
  obtain ⟨_, _, _, hs⟩ := ln_first h1 h2
  obtain ⟨a1, a2, _⟩ := bd_mul hs hs (by decide) (by decide)
  exact ⟨a1, a2⟩
theorem lnW_bd {X : Nat} (h1 : 3936146074321813504 ≤ X) (h2 : X ≤ 5183643171103440896) : Bd .f64 15 (lnW X) := by
  have hz1 := lnN2_ge (X := X)
  have hz2 := lnZ_lt (X := X)
  obtain ⟨b1, b2, _⟩ := lnN_bd h1 h2
  obtain ⟨_, _, _, hs⟩ := ln_first (z := lnZ X) (by omega) hz2
  obtain ⟨_, hu⟩ := lnU_bd (z := lnZ X) (by omega) hz2
  exact (ln_last hs (lnQ_bd hu 13 (by omega)) (by unfold lnE; omega) (by unfold lnE; omega)).2.2.2.2

/-- The double word of a single one. -/
def up64 (x : Nat) : Nat := (floatToFloatBits .f32 x .f64).getD 0
theorem up64_pos {x : Nat} (h0 : 0 < x) (hx : x < 2139095040) : floatToFloatBits .f32 x .f64 = some (up64 x) ∧ 3936146074321813504 ≤ up64 x ∧ up64 x < 5183643171103440896 := by
  have hf := fin_of_lt single (x := x) (by rw [s_inf]; exact hx)
  obtain ⟨r, h1, h2, h3, h4⟩ := conv_up hf
  rw [sg_of_le single (by rw [s_inf]; omega)] at h3
  rw [rg_of_le single (by rw [s_inf]; omega)] at h4
  have hu : up64 x = r := by unfold up64; rw [h1]; rfl
  rw [hu]
  have hw := floatToFloatBits_wf (show (Lit.float .f32 x).wf = true by simp [Lit.wf]; omega) h1
  have hr64 : r < 18446744073709551616 := by simpa [Lit.wf] using hw
  have hrg : rg double r = r := by
    unfold sg at h3
    rw [d_sw] at h3
    unfold rg
    rw [d_sw]
    have : ¬ r / 9223372036854775808 % 2 = 1 := by simpa using h3
    omega
  rw [hrg] at h4
  refine ⟨h1, ?_, ?_⟩
  · refine (rv_le_iff double).1 ?_
    rw [h4]
    have k1 : rv double 3936146074321813504 = pv 1 (-149) := by
      have h := rv_at double 873 4503599627370496 (.inr ⟨by rw [d_bin]; omega, by rw [d_bin]; omega⟩)
      rw [d_bin] at h
      rw [show (3936146074321813504 : Nat) = 873 * 4503599627370496 + 4503599627370496 by omega, h, show (4503599627370496 : Nat) = 1 * 2 ^ 52 by decide, pv_shift]
      decide +kernel
    have k2 : rv single 1 = pv 1 (-149) := by
      have h := rv_at single 0 1 (.inl ⟨rfl, by decide⟩)
      rw [Nat.zero_mul, Nat.zero_add] at h
      rw [h]; decide +kernel
    rw [k1, ← k2]
    exact rv_le _ h0
  · refine (rv_lt_iff double).1 ?_
    rw [h4, rv_d_128, ← rv_s_inf]
    exact rv_lt _ hx
/-- The logarithm of a single word, narrowed. -/
def lnF (x : Nat) : Nat := (floatToFloatBits .f64 (lnW (up64 x)) .f32).getD 0
theorem lnF_some {x : Nat} (h0 : 0 < x) (hx : x < 2139095040) : floatToFloatBits .f64 (lnW (up64 x)) .f32 = some (lnF x) ∧ Bd .f32 15 (lnF x) ∧ Rnd single (sv double (lnW (up64 x))) (lnF x) := by
  obtain ⟨_, h1, h2⟩ := up64_pos h0 hx
  obtain ⟨r, r1, r2, r3⟩ := conv_down (lnW_bd h1 (by omega)) (by omega)
  have : lnF x = r := by unfold lnF; rw [r1]; rfl
  rw [this]
  exact ⟨r1, r2, r3⟩

end Go.Proofs.Ytmocfnpbofeiiaa

/- The exponential function's plain part: what is reckoned stays within bounds. -/
namespace Go.Proofs.Ytmocfnpbofeiiaa
set_option linter.unusedSimpArgs false
set_option linter.unusedVariables false
open Ieee

theorem av_le {v c : Rat} (h1 : v ≤ c) (h2 : -c ≤ v) : av v ≤ c := by unfold av; split <;> grind
theorem near_zero {f : Format} {q : Nat} (h : Near f 0 q) : q = 0 := by
  have := h.le (s := 0) (by rw [rv_zero]; exact Rat.le_refl)
  omega
theorem rnd_zero {f : Format} {v : Rat} {w : Nat} (h : Rnd f v w) (hv : v = 0) : rg f w = 0 := by
  have := h.le (K := 0) (by rw [hv, rv_zero]; decide)
  omega
theorem sv_sg {f : Format} {w : Nat} {s : Bool} (h : sg f w = s) : sv f w = if s then -rv f (rg f w) else rv f (rg f w) := by unfold sv; rw [h]
theorem Rnd.sgn {f : Format} {v : Rat} {w : Nat} (h : Rnd f v w) : (0 < v → sg f w = false) ∧ (v < 0 → sg f w = true) := by
  obtain ⟨s, q, rfl, _, h1, h2⟩ := h
  rw [sg_word f s (Nat.min_le_right ..)]
  exact ⟨h1, h2⟩
theorem sv_rg0 {f : Format} {w : Nat} (h : rg f w = 0) : sv f w = 0 := by
  unfold sv; rw [h, rv_zero]; split <;> decide
/-- Rounding keeps to a bound that is a word. -/
theorem rnd_le {f : Format} {v c : Rat} {w : Nat} (K : Nat) (h : Rnd f v w) (hK : rv f K = c) (hv : v ≤ c) : sv f w ≤ c := by
  have hc : 0 ≤ c := by rw [← hK]; exact rv_nonneg _ _
  by_cases h0 : 0 < v
  · rw [sv_sg (h.sgn.1 h0)]
    have := h.le (K := K) (by rw [av_of_nonneg (by grind), hK]; exact hv)
    simp only [Bool.false_eq_true, if_false]
    rw [← hK]; exact rv_le _ this
  · by_cases h1 : v < 0
    · rw [sv_sg (h.sgn.2 h1)]
      have := rv_nonneg f (rg f w)
      simp only [if_true]; grind
    · rw [sv_rg0 (rnd_zero h (by grind))]; exact hc
theorem rnd_ge {f : Format} {v c : Rat} {w : Nat} (K : Nat) (h : Rnd f v w) (hK : rv f K = c) (hv : -c ≤ v) : -c ≤ sv f w := by
  have hc : 0 ≤ c := by rw [← hK]; exact rv_nonneg _ _
  by_cases h0 : v < 0
  · rw [sv_sg (h.sgn.2 h0)]
    have := h.le (K := K) (by rw [hK]; exact av_le (by grind) hv)
    simp only [if_true]
    have := rv_le f this
    rw [hK] at this; grind
  · by_cases h1 : 0 < v
    · rw [sv_sg (h.sgn.1 h1)]
      have := rv_nonneg f (rg f w)
      simp only [Bool.false_eq_true, if_false]; grind
    · rw [sv_rg0 (rnd_zero h (by grind))]; grind
theorem rnd_ge0 {f : Format} {v : Rat} {w : Nat} (h : Rnd f v w) (hv : 0 ≤ v) : 0 ≤ sv f w := by
  have := rnd_ge (c := 0) 0 h (rv_zero f) (by grind)
  grind
theorem rnd_gep {f : Format} {v c : Rat} {w : Nat} (K : Nat) (h : Rnd f v w) (hi : K ≤ f.infRung) (hK : rv f K = c) (hc : 0 < c) (hv : c ≤ v) : c ≤ sv f w := by
  have h0 : 0 < v := by grind
  rw [sv_sg (h.sgn.1 h0)]
  have := h.ge hi (by rw [hK, av_of_nonneg (by grind)]; exact hv)
  simp only [Bool.false_eq_true, if_false]
  rw [← hK]; exact rv_le _ this

/-- A double word's value. -/
theorem rv_dd (t k : Nat) (h1 : 4503599627370496 ≤ k) (h2 : k ≤ 9007199254740992) : rv double (t * 4503599627370496 + k) = pv k (-1074 + t) := by
  have := rv_at double t k (.inr ⟨by rw [d_bin]; exact h1, by rw [d_bin]; omega⟩)
  rw [d_bin] at this
  rw [this]; rfl
theorem rv_1_64 : rv double 4580160821035794432 = 1 / 64 := by
  rw [show (4580160821035794432 : Nat) = 1016 * 4503599627370496 + 4503599627370496 by omega, rv_dd _ _ (by omega) (by omega)]; decide +kernel
theorem rv_1_32 : rv double 4584664420663164928 = 1 / 32 := by
  rw [show (4584664420663164928 : Nat) = 1017 * 4503599627370496 + 4503599627370496 by omega, rv_dd _ _ (by omega) (by omega)]; decide +kernel
theorem rv_1_2 : rv double 4602678819172646912 = 1 / 2 := by
  rw [show (4602678819172646912 : Nat) = 1021 * 4503599627370496 + 4503599627370496 by omega, rv_dd _ _ (by omega) (by omega)]; decide +kernel
theorem rv_25_32 : rv double 4605212093963042816 = 25 / 32 := by
  rw [show (4605212093963042816 : Nat) = 1021 * 4503599627370496 + 7036874417766400 by omega, rv_dd _ _ (by omega) (by omega)]; decide +kernel
theorem rv_33_32 : rv double 4607323156288372736 = 33 / 32 := by
  rw [show (4607323156288372736 : Nat) = 1022 * 4503599627370496 + 4644337115725824 by omega, rv_dd _ _ (by omega) (by omega)]; decide +kernel
theorem rv_9_8 : rv double 4607745368753438720 = 9 / 8 := by
  rw [show (4607745368753438720 : Nat) = 1022 * 4503599627370496 + 5066549580791808 by omega, rv_dd _ _ (by omega) (by omega)]; decide +kernel
theorem rv_21_16 : rv double 4608589793683570688 = 21 / 16 := by
  rw [show (4608589793683570688 : Nat) = 1022 * 4503599627370496 + 5910974510923776 by omega, rv_dd _ _ (by omega) (by omega)]; decide +kernel
theorem rv_4 : rv double 4616189618054758400 = 4 := by
  rw [show (4616189618054758400 : Nat) = 1024 * 4503599627370496 + 4503599627370496 by omega, rv_dd _ _ (by omega) (by omega)]; decide +kernel
theorem rv_1 : rv double 4607182418800017408 = 1 := by
  rw [show (4607182418800017408 : Nat) = 1022 * 4503599627370496 + 4503599627370496 by omega, rv_dd _ _ (by omega) (by omega)]; decide +kernel
theorem rv_2 : rv double 4611686018427387904 = 2 := rv_d2
theorem sv_256 : sv double 4643211215818981376 = 256 := by
  rw [sv_of_le double (by rw [d_inf]; omega), show (4643211215818981376 : Nat) = 1030 * 4503599627370496 + 4503599627370496 by omega, rv_dd _ _ (by omega) (by omega)]; decide +kernel

/-- Between bounds, in a format. -/
def Bt (k : FloatKind) (lo hi : Rat) (x : Nat) : Prop := Fnt k.format x ∧ lo ≤ sv k.format x ∧ sv k.format x ≤ hi
theorem Bt.bd {k : FloatKind} {lo hi : Rat} {x : Nat} (h : Bt k lo hi x) (e : Nat) (h1 : hi ≤ pv 1 e) (h2 : -pv 1 e ≤ lo) : Bd k e x := av_le (by have := h.2.2; grind) (by have := h.2.1; grind)
theorem p1_0 : pv 1 ((0 : Nat) : Int) = 1 := by decide +kernel
theorem p1_1 : pv 1 ((1 : Nat) : Int) = 2 := by decide +kernel

def exT (X : Nat) : Nat := fA .quo .f64 X 4643211215818981376
def exP (t : Nat) : Nat → Nat
  | 0 => 4607182418800017408
  | j + 1 => fA .add .f64 4607182418800017408 (fA .quo .f64 (fA .mul .f64 t (exP t j)) (floatOfInt .f64 (12 - (j : Int))))
def exS (p : Nat) : Nat → Nat
  | 0 => p
  | j + 1 => fA .mul .f64 (exS p j) (exS p j)
def exW (X : Nat) : Nat := exS (exP (exT X) 12) 8

theorem ex_t {X : Nat} (h : Bt .f64 (-200) 4 X) : (floatBits .quo .f64 X 4643211215818981376).isSome = true ∧ Bt .f64 (-(25 / 32)) (1 / 64) (exT X) := by
  have p8 : pv 1 ((8 : Nat) : Int) = 256 := by decide +kernel
  have hb : Bd .f64 8 X := h.bd 8 (by rw [p8]; decide +kernel) (by rw [p8]; decide +kernel)
  obtain ⟨a1, a2, a3⟩ := bd_div (k := .f64) (y := 4643211215818981376) hb (fin_of_lt double (by rw [d_inf]; omega)) (by rw [show FloatKind.f64.format = double from rfl, sv_256]; decide +kernel) (by decide)
  rw [show FloatKind.f64.format = double from rfl, sv_256] at a3
  have h1 := h.2.1
  have h2 := h.2.2
  rw [show FloatKind.f64.format = double from rfl] at h1 h2
  refine ⟨a1, a2.fnt (by decide), rnd_ge 4605212093963042816 a3 rv_25_32 ?_, rnd_le 4580160821035794432 a3 rv_1_64 ?_⟩
  · grind
  · grind
theorem foi_12 : ∀ j : Nat, j < 12 → Fnt double (floatOfInt .f64 (12 - (j : Int))) ∧ 4607182418800017408 ≤ floatOfInt .f64 (12 - (j : Int)) ∧ floatOfInt .f64 (12 - (j : Int)) < 9218868437227405312 := by
  have h : ∀ j : Nat, j < 12 → rg double (floatOfInt .f64 (12 - (j : Int))) < double.infRung ∧ 4607182418800017408 ≤ floatOfInt .f64 (12 - (j : Int)) ∧ floatOfInt .f64 (12 - (j : Int)) < 9218868437227405312 := by decide +kernel
  exact h
theorem div_between {v k lo hi : Rat} (hk : 1 ≤ k) (h1 : lo ≤ v) (h2 : v ≤ hi) (hl : lo ≤ 0) (hh : 0 ≤ hi) : lo ≤ v / k ∧ v / k ≤ hi := by
  have hk0 : k ≠ 0 := by grind
  have e : v / k * k = v := Rat.div_mul_cancel hk0
  generalize v / k = d at e
  constructor
  · by_cases hd : d < 0
    · have := Rat.mul_le_mul_of_nonneg_left hk (show 0 ≤ -d by grind)
      grind
    · grind
  · by_cases hd : 0 < d
    · have := Rat.mul_le_mul_of_nonneg_left hk (show 0 ≤ d by grind)
      grind
    · grind
theorem mul_between {t p : Rat} (t1 : -(25 / 32) ≤ t) (t2 : t ≤ 1 / 64) (p1 : 0 ≤ p) (p2 : p ≤ 33 / 32) : -1 ≤ t * p ∧ t * p ≤ 1 / 32 := by
  have h1 := Rat.mul_le_mul_of_nonneg_right t1 p1
  have h2 := Rat.mul_le_mul_of_nonneg_right t2 p1
  constructor <;> grind
theorem ex_step {t p : Nat} (ht : Bt .f64 (-(25 / 32)) (1 / 64) t) (hp : Bt .f64 0 (33 / 32) p) {j : Nat} (hj : j < 12) :
    (floatBits .mul .f64 t p).isSome = true ∧ (floatBits .quo .f64 (fA .mul .f64 t p) (floatOfInt .f64 (12 - (j : Int)))).isSome = true ∧
    (floatBits .add .f64 4607182418800017408 (fA .quo .f64 (fA .mul .f64 t p) (floatOfInt .f64 (12 - (j : Int))))).isSome = true ∧
    Bt .f64 0 (33 / 32) (fA .add .f64 4607182418800017408 (fA .quo .f64 (fA .mul .f64 t p) (floatOfInt .f64 (12 - (j : Int))))) := by
  have tb : Bd .f64 0 t := ht.bd 0 (by rw [p1_0]; decide +kernel) (by rw [p1_0]; decide +kernel)
  have pb : Bd .f64 1 p := hp.bd 1 (by rw [p1_1]; decide +kernel) (by rw [p1_1]; decide +kernel)
  obtain ⟨a1, a2, a3⟩ := bd_mul tb pb (by decide) (by decide)
  obtain ⟨t0, t1, t2⟩ := ht
  obtain ⟨q0, q1, q2⟩ := hp
  rw [show FloatKind.f64.format = double from rfl] at a3 t1 t2 q1 q2
  obtain ⟨m1, m2⟩ := mul_between t1 t2 q1 q2
  have v1 := rnd_ge 4607182418800017408 a3 rv_1 m1
  have v2 := rnd_le 4584664420663164928 a3 rv_1_32 m2
  obtain ⟨k0, k1, k2⟩ := foi_12 j hj
  have hk : 1 ≤ sv double (floatOfInt .f64 (12 - (j : Int))) := by
    rw [sv_of_le double (by rw [d_inf]; omega), ← rv_1]
    exact rv_le _ k1
  obtain ⟨b1, b2, b3⟩ := bd_div (k := .f64) (e := 1) (y := floatOfInt .f64 (12 - (j : Int))) (a2.mono (by decide)) k0 (by rw [show FloatKind.f64.format = double from rfl, av_of_nonneg (by grind)]; exact hk) (by decide)
  rw [show FloatKind.f64.format = double from rfl] at b3
  obtain ⟨d1, d2⟩ := div_between hk v1 v2 (by decide +kernel) (by decide +kernel)
  have w1 := rnd_ge 4607182418800017408 b3 rv_1 d1
  have w2 := rnd_le 4584664420663164928 b3 rv_1_32 d2
  obtain ⟨c1, c2, c3⟩ := bd_add (bd_one.mono (Nat.zero_le 1)) b2 (by decide)
  rw [show FloatKind.f64.format = double from rfl, sv_one] at c3
  refine ⟨a1, b1, c1, c2.fnt (by decide), rnd_ge0 c3 ?_, rnd_le 4607323156288372736 c3 rv_33_32 ?_⟩
  · grind
  · grind
theorem ex_p0 : Bt .f64 0 (33 / 32) 4607182418800017408 := ⟨fin_of_lt double (by rw [d_inf]; omega), by rw [show FloatKind.f64.format = double from rfl, sv_one]; decide +kernel, by rw [show FloatKind.f64.format = double from rfl, sv_one]; decide +kernel⟩
theorem exP_bt {t : Nat} (ht : Bt .f64 (-(25 / 32)) (1 / 64) t) : ∀ j, j ≤ 12 → Bt .f64 0 (33 / 32) (exP t j) := by
  intro j
  induction j with
  | zero => intro _; exact ex_p0
  | succ j ih => intro hj; exact (ex_step ht (ih (by omega)) (by omega)).2.2.2
theorem sq_step {e : Nat} {p : Nat} (hp : Bt .f64 0 (pv 1 e) p) (he : e ≤ 1023) : (floatBits .mul .f64 p p).isSome = true ∧ (2 * e ≤ 1023 → Bt .f64 0 (pv 1 ((2 * e : Nat) : Int)) (fA .mul .f64 p p)) := by
  have pb : Bd .f64 e p := hp.bd e (Rat.le_refl) (by have := pv_nonneg 1 e; grind)
  obtain ⟨a1, a2, a3⟩ := bd_mul pb pb he he
  refine ⟨a1, fun h2 => ?_⟩
  rw [← Nat.two_mul] at a2
  refine ⟨a2.fnt h2, rnd_ge0 a3 (Rat.mul_nonneg hp.2.1 hp.2.1), ?_⟩
  have h3 : av (sv double (fA .mul .f64 p p)) ≤ pv 1 ((2 * e : Nat) : Int) := a2
  have h4 : sv double (fA .mul .f64 p p) ≤ av (sv double (fA .mul .f64 p p)) := by unfold av; split <;> grind
  exact Rat.le_trans h4 h3
theorem sq_low {p K : Nat} {c d : Rat} (hp : Bt .f64 0 c p) (hc : c ≤ 2) (hcd : c * c ≤ d) (hK : rv double K = d) : (floatBits .mul .f64 p p).isSome = true ∧ Bt .f64 0 d (fA .mul .f64 p p) := by
  have pb : Bd .f64 1 p := hp.bd 1 (by rw [p1_1]; exact hc) (by rw [p1_1]; decide +kernel)
  obtain ⟨a1, a2, a3⟩ := bd_mul pb pb (by decide) (by decide)
  obtain ⟨q0, q1, q2⟩ := hp
  rw [show FloatKind.f64.format = double from rfl] at a3 q1 q2
  have h1 := Rat.mul_le_mul_of_nonneg_right q2 q1
  have h2 := Rat.mul_le_mul_of_nonneg_left q2 (show 0 ≤ c by grind)
  exact ⟨a1, a2.fnt (by decide), rnd_ge0 a3 (Rat.mul_nonneg q1 q1), rnd_le K a3 hK (by grind)⟩
theorem exS_all {p : Nat} (hp : Bt .f64 0 (33 / 32) p) : (∀ j, j < 8 → (floatBits .mul .f64 (exS p j) (exS p j)).isSome = true) ∧ Bt .f64 0 (pv 1 ((32 : Nat) : Int)) (exS p 8) := by
  obtain ⟨a0, b0⟩ := sq_low hp (by decide +kernel) (show (33 / 32 * (33 / 32) : Rat) ≤ 9 / 8 by decide +kernel) rv_9_8
  obtain ⟨a1, b1⟩ := sq_low b0 (by decide +kernel) (show (9 / 8 * (9 / 8) : Rat) ≤ 21 / 16 by decide +kernel) rv_21_16
  obtain ⟨a2, b2⟩ := sq_low b1 (by decide +kernel) (show (21 / 16 * (21 / 16) : Rat) ≤ 2 by decide +kernel) rv_2
  rw [← p1_1] at b2
  obtain ⟨a3, b3⟩ := sq_step b2 (by decide)
  have b3 := b3 (by decide)
  obtain ⟨a4, b4⟩ := sq_step b3 (by decide)
  have b4 := b4 (by decide)
  obtain ⟨a5, b5⟩ := sq_step b4 (by decide)
  have b5 := b5 (by decide)
  obtain ⟨a6, b6⟩ := sq_step b5 (by decide)
  have b6 := b6 (by decide)
  obtain ⟨a7, b7⟩ := sq_step b6 (by decide)
  have b7 := b7 (by decide)
  refine ⟨fun j hj => ?_, b7⟩
  match j, hj with
  | 0, _ => exact a0
  | 1, _ => exact a1
  | 2, _ => exact a2
  | 3, _ => exact a3
  | 4, _ => exact a4
  | 5, _ => exact a5
  | 6, _ => exact a6
  | 7, _ => exact a7
theorem exW_bt {X : Nat} (h : Bt .f64 (-200) 4 X) : Bt .f64 0 (pv 1 ((32 : Nat) : Int)) (exW X) := (exS_all (exP_bt (ex_t h).2 12 (by omega))).2

end Go.Proofs.Ytmocfnpbofeiiaa
