/- How far two rows are apart: the plain part (the logarithm is at most 4; what is reckoned stays within bounds). -/
import Derived.Test.YtmocfnpbofeiiaaMExl
import Derived.Test.YtmocfnpbofeiiaaMEnt
import Derived.Laws.Externs
import Derived.Lib.AppendZerosOnto
import Derived.Lib.SliceRun
namespace Go.Proofs.Ytmocfnpbofeiiaa
set_option linter.unusedSimpArgs false
set_option linter.unusedVariables false
open Ieee

theorem rv_ss (t k : Nat) (h1 : 8388608 ≤ k) (h2 : k ≤ 16777216) : rv single (t * 8388608 + k) = pv k (-149 + t) := by
  have hb : single.binade = 8388608 := by decide
  have := rv_at single t k (.inr ⟨by rw [hb]; exact h1, by rw [hb]; omega⟩)
  rw [hb] at this
  rw [this]; rfl
theorem rs_4 : rv single 1082130432 = 4 := by
  rw [show (1082130432 : Nat) = 128 * 8388608 + 8388608 by omega, rv_ss _ _ (by omega) (by omega)]; decide +kernel
theorem rs_1 : rv single 1065353216 = 1 := by
  rw [show (1065353216 : Nat) = 126 * 8388608 + 8388608 by omega, rv_ss _ _ (by omega) (by omega)]; decide +kernel
theorem rs_2 : rv single 1073741824 = 2 := by
  rw [show (1073741824 : Nat) = 127 * 8388608 + 8388608 by omega, rv_ss _ _ (by omega) (by omega)]; decide +kernel
theorem rs_half : rv single 1056964608 = 1 / 2 := by
  rw [show (1056964608 : Nat) = 125 * 8388608 + 8388608 by omega, rv_ss _ _ (by omega) (by omega)]; decide +kernel
theorem rs_200 : rv single 1128792064 = 200 := by
  rw [show (1128792064 : Nat) = 133 * 8388608 + 13107200 by omega, rv_ss _ _ (by omega) (by omega)]; decide +kernel
theorem rd_200 : rv double 4641240890982006784 = 200 := by
  rw [show (4641240890982006784 : Nat) = 1029 * 4503599627370496 + 7036874417766400 by omega, rv_dd _ _ (by omega) (by omega)]; decide +kernel
theorem ss_200 : sv single 1128792064 = 200 := by rw [sv_of_le single (by rw [s_inf]; omega)]; exact rs_200
theorem sd_200 : sv double 4641240890982006784 = 200 := by rw [sv_of_le double (by rw [d_inf]; omega)]; exact rd_200
theorem ss_m200 : sv single 3276275712 = -200 := by
  have h : sg single 3276275712 = true := by decide
  rw [sv_sg h, show rg single 3276275712 = 1128792064 by decide]; simp only [if_true]; rw [rs_200]
theorem sd_m200 : sv double 13864612927836782592 = -200 := by
  have h : sg double 13864612927836782592 = true := by decide
  rw [sv_sg h, show rg double 13864612927836782592 = 4641240890982006784 by decide]; simp only [if_true]; rw [rd_200]

theorem lnS_half {z : Nat} (h1 : 4604930618986332160 ≤ z) (h2 : z < 4609434218613702656) : av (sv double (lnS z)) ≤ 1 / 2 := by
  have hz : Bd .f64 1 z := Bd.of (by
    rw [show FloatKind.f64.format = double from rfl, rg_of_le double (by rw [d_inf]; omega)]
    have : WK .f64 1 = 4611686018427387904 := by decide
    omega)
  have g1 : (3 : Rat) / 4 ≤ sv double z := by
    rw [← sv_075, sv_of_le double (by rw [d_inf]; omega), sv_of_le double (by rw [d_inf]; omega)]
    exact rv_le _ h1
  have g2 : sv double z ≤ 3 / 2 := by
    rw [← sv_15, sv_of_le double (by rw [d_inf]; omega), sv_of_le double (by rw [d_inf]; omega)]
    exact rv_le _ (by omega)
  obtain ⟨a1, a2, a3⟩ := bd_sub hz (bd_one.mono (by omega)) (by decide)
  obtain ⟨b1, b2, b3⟩ := bd_add hz (bd_one.mono (by omega)) (by decide)
  rw [show FloatKind.f64.format = double from rfl, sv_one] at a3 b3
  have u1 := rnd_le 4602678819172646912 a3 rv_1_2 (by grind)
  have u2 := rnd_ge 4602678819172646912 a3 rv_1_2 (by grind)
  have hb := rnd_gep 4607182418800017408 b3 (by rw [d_inf]; omega) rv_1 (by decide +kernel) (by grind)
  obtain ⟨_, _, c3⟩ := bd_div (k := .f64) a2 (b2.fnt (by decide)) (by rw [show FloatKind.f64.format = double from rfl, av_of_nonneg (by grind)]; exact hb) (by decide)
  rw [show FloatKind.f64.format = double from rfl] at c3
  obtain ⟨d1, d2⟩ := div_between hb u2 u1 (by decide +kernel) (by decide +kernel)
  exact av_le (rnd_le 4602678819172646912 c3 rv_1_2 d2) (rnd_ge 4602678819172646912 c3 rv_1_2 d1)
theorem av_two {v c : Rat} (h : av v ≤ c) : v ≤ c ∧ -c ≤ v := by unfold av at h; split at h <;> constructor <;> grind
theorem mul_av {a b c d : Rat} (h1 : av a ≤ c) (h2 : av b ≤ d) : av (a * b) ≤ c * d := by
  rw [av_mul]
  exact Rat.le_trans (Rat.mul_le_mul_of_nonneg_right h1 (av_nonneg _)) (Rat.mul_le_mul_of_nonneg_left h2 (Rat.le_trans (av_nonneg _) h1))
theorem lnU_half {z : Nat} (h1 : 4604930618986332160 ≤ z) (h2 : z < 4609434218613702656) : av (sv double (fA .mul .f64 (lnS z) (lnS z))) ≤ 1 / 2 := by
  have hs := lnS_half h1 h2
  obtain ⟨_, _, _, hb⟩ := ln_first h1 h2
  obtain ⟨_, _, a3⟩ := bd_mul hb hb (by decide) (by decide)
  rw [show FloatKind.f64.format = double from rfl] at a3
  have h3 := mul_av hs hs
  obtain ⟨k1, k2⟩ := av_two h3
  have e : (1 / 2 * (1 / 2) : Rat) = 1 / 4 := by decide +kernel
  rw [e] at k1 k2
  exact av_le (rnd_le 4602678819172646912 a3 rv_1_2 (by grind)) (rnd_ge 4602678819172646912 a3 rv_1_2 (by grind))
theorem lnQ_two {u : Nat} (hu : Bd .f64 0 u) (hh : av (sv double u) ≤ 1 / 2) : ∀ j, j ≤ 13 → Bd .f64 1 (lnQ u j) := by
  intro j
  induction j with
  | zero => intro _; exact Bd.of (show rg double 0 ≤ WK .f64 1 by decide)
  | succ j ih =>
    intro hj
    have h1 := ih (by omega)
    obtain ⟨_, _, m3⟩ := bd_mul hu h1 (by decide) (by decide)
    have h2 : av (sv double (lnQ u j)) ≤ 2 := by have := h1; unfold Bd at this; rw [p1_1] at this; exact this
    have h3 := mul_av hh h2
    have e : (1 / 2 * 2 : Rat) = 1 := by decide +kernel
    rw [e] at h3
    have m0 : Bd .f64 0 (fA .mul .f64 u (lnQ u j)) := bd_rnd m3 (by rw [p1_0]; exact h3)
    exact (bd_add ((Bd.of (inv_odd j (by omega)).2 : Bd .f64 0 _)) m0 (by decide)).2.1
theorem e_ln2 : ∀ k : Nat, k < 202 → ((floatBits .mul .f64 (floatOfInt .f64 ((k : Int) - 200)) 4604418534313441775).isSome = true ∧ rg double (fA .mul .f64 (floatOfInt .f64 ((k : Int) - 200)) 4604418534313441775) ≤ WK .f64 8) ∧
    (sg double (fA .mul .f64 (floatOfInt .f64 ((k : Int) - 200)) 4604418534313441775) = true ∨ rg double (fA .mul .f64 (floatOfInt .f64 ((k : Int) - 200)) 4604418534313441775) ≤ 4607182418800017408) := by decide +kernel
theorem lnR_le {z : Nat} {e : Int} (h1 : 4604930618986332160 ≤ z) (h2 : z < 4609434218613702656) (he : -200 ≤ e) (he2 : e ≤ 1) : sv double (lnR z e) ≤ 4 := by
  obtain ⟨_, _, _, hs⟩ := ln_first h1 h2
  have hsh := lnS_half h1 h2
  obtain ⟨_, hu⟩ := lnU_bd h1 h2
  have hq := lnQ_two hu (lnU_half h1 h2) 13 (by omega)
  obtain ⟨_, _, a3⟩ := bd_mul hs hq (by decide) (by decide)
  have hq2 : av (sv double (lnQ (fA .mul .f64 (lnS z) (lnS z)) 13)) ≤ 2 := by have := hq; unfold Bd at this; rw [p1_1] at this; exact this
  have h3 := mul_av hsh hq2
  rw [show (1 / 2 * 2 : Rat) = 1 by decide +kernel] at h3
  have a0 : Bd .f64 0 (fA .mul .f64 (lnS z) (lnQ (fA .mul .f64 (lnS z) (lnS z)) 13)) := bd_rnd a3 (by rw [p1_0]; exact h3)
  obtain ⟨_, b2, _⟩ := bd_mul (Bd.of (by decide) : Bd .f64 1 4611686018427387904) a0 (by decide) (by decide)
  obtain ⟨⟨_, c2⟩, c3⟩ := e_ln2 (e + 200).toNat (by omega)
  rw [show (((e + 200).toNat : Nat) : Int) - 200 = e by omega] at c2 c3
  obtain ⟨_, _, d3⟩ := bd_add (b2.mono (by decide)) (Bd.of c2 : Bd .f64 8 _) (by decide)
  rw [show FloatKind.f64.format = double from rfl] at d3
  refine rnd_le 4616189618054758400 d3 rv_4 ?_
  have k1 : sv double (fA .mul .f64 4611686018427387904 (fA .mul .f64 (lnS z) (lnQ (fA .mul .f64 (lnS z) (lnS z)) 13))) ≤ 2 := by
    have := b2; unfold Bd at this; rw [show (1 + 0 : Nat) = 1 from rfl, p1_1] at this; exact (av_two this).1
  have k2 : sv double (fA .mul .f64 (floatOfInt .f64 e) 4604418534313441775) ≤ 1 := by
    have h0 := rv_nonneg double (rg double (fA .mul .f64 (floatOfInt .f64 e) 4604418534313441775))
    rcases c3 with c3 | c3
    · rw [sv_sg c3]; simp only [if_true]; grind
    · have := rv_le double c3
      rw [rv_1] at this
      unfold sv; split <;> grind
  grind
theorem lnW_le {X : Nat} (h1 : 3936146074321813504 ≤ X) (h2 : X ≤ 4611686018427387904) : sv double (lnW X) ≤ 4 := by
  have hz1 := lnN2_ge (X := X)
  have hz2 := lnZ_lt (X := X)
  obtain ⟨b1, b2, _⟩ := lnN_bd h1 (by omega)
  have hn : lnN1 X ≤ 1 := by unfold lnN1; omega
  exact lnR_le (by omega) hz2 (by unfold lnE; omega) (by unfold lnE; omega)
/-- The logarithm of a chance is at most 4. -/
theorem lnF_le {x : Nat} (h0 : 0 < x) (hx : x ≤ 1073741824) : sv single (lnF x) ≤ 4 ∧ Bd .f32 15 (lnF x) := by
  obtain ⟨k0, k1, k2⟩ := up64_pos h0 (by omega)
  obtain ⟨_, r2, r3⟩ := lnF_some h0 (by omega)
  refine ⟨rnd_le 1082130432 r3 rs_4 (lnW_le k1 ?_), r2⟩
  obtain ⟨r, e1, e2, e3, e4⟩ := conv_up (z := x) (fin_of_lt single (by rw [s_inf]; omega))
  rw [k0] at e1
  obtain rfl := Option.some.inj e1
  rw [sg_of_le single (by rw [s_inf]; omega)] at e3
  rw [rg_of_le double (by rw [d_inf]; omega), rg_of_le single (by rw [s_inf]; omega)] at e4
  refine (rv_le_iff double).1 ?_
  rw [e4, rv_2, ← rs_2]
  exact rv_le _ hx
theorem up_sv {z : Nat} (h : Fnt single z) : floatToFloatBits .f32 z .f64 = some (up64 z) ∧ Fnt double (up64 z) ∧ sv double (up64 z) = sv single z := by
  obtain ⟨r, h1, h2, h3, h4⟩ := conv_up h
  have : up64 z = r := by unfold up64; rw [h1]; rfl
  rw [this]
  refine ⟨h1, h2, ?_⟩
  unfold sv; rw [h3, h4]
/-- e to the power of a single word that is at most 4. -/
def exC (z : Nat) : Nat := (floatToFloatBits .f64 (exW (up64 z)) .f32).getD 0
def exF (z : Nat) : Nat := if sv single z < -200 then 0 else exC z
/-- What the program may narrow. -/
theorem exC_ok {z : Nat} (h : Fnt single z) (h1 : -200 ≤ sv single z) (h2 : sv single z ≤ 4) : Bt .f64 (-200) 4 (up64 z) ∧ floatToFloatBits .f64 (exW (up64 z)) .f32 = some (exC z) ∧ Bd .f32 32 (exC z) ∧ 0 ≤ sv single (exC z) := by
  obtain ⟨a1, a2, a3⟩ := up_sv h
  have hb : Bt .f64 (-200) 4 (up64 z) := ⟨a2, by rw [show FloatKind.f64.format = double from rfl, a3]; exact h1, by rw [show FloatKind.f64.format = double from rfl, a3]; exact h2⟩
  have hw := exW_bt hb
  have hp := pv_nonneg 1 ((32 : Nat) : Int)
  obtain ⟨r, r1, r2, r3⟩ := conv_down (hw.bd 32 Rat.le_refl (by grind)) (by decide)
  have : exC z = r := by unfold exC; rw [r1]; rfl
  rw [this]
  exact ⟨hb, r1, r2, rnd_ge0 r3 hw.2.1⟩
theorem exF_ok {z : Nat} (h : Fnt single z) (h2 : sv single z ≤ 4) : Bd .f32 32 (exF z) ∧ 0 ≤ sv single (exF z) := by
  unfold exF
  split
  · have : sv single 0 = 0 := sv_rg0 (by decide)
    exact ⟨Bd.of (show rg single 0 ≤ WK .f32 32 by decide), by rw [this]; exact Rat.le_refl⟩
  · rename_i h1
    exact ((exC_ok h (by grind) h2).2).2
/-- A share. -/
def Sh (s : Nat) : Prop := Fnt single s ∧ 0 ≤ sv single s ∧ sv single s ≤ 1
theorem mul_le4 {s l : Rat} (h0 : 0 ≤ s) (h1 : s ≤ 1) (h2 : l ≤ 4) : s * l ≤ 4 := by
  have a := Rat.mul_le_mul_of_nonneg_left h2 h0
  have b := Rat.mul_le_mul_of_nonneg_right h1 (show (0 : Rat) ≤ 4 by decide +kernel)
  grind
def faZ (s x : Nat) : Nat := fA .mul .f32 s (lnF x)
theorem faZ_ok {s x : Nat} (hs : Sh s) (h0 : 0 < x) (hx : x ≤ 1073741824) : (floatBits .mul .f32 s (lnF x)).isSome = true ∧ Fnt single (faZ s x) ∧ sv single (faZ s x) ≤ 4 := by
  obtain ⟨l1, l2⟩ := lnF_le h0 hx
  obtain ⟨s0, s1, s2⟩ := hs
  have sb : Bd .f32 0 s := av_le (by rw [p1_0]; exact s2) (by rw [p1_0]; have : FloatKind.f32.format = single := rfl; rw [this]; grind)
  obtain ⟨a1, a2, a3⟩ := bd_mul sb l2 (by decide) (by decide)
  exact ⟨a1, a2.fnt (by decide), rnd_le 1082130432 a3 rs_4 (mul_le4 s1 s2 l1)⟩
def faU (s : Nat) : Nat := fA .sub .f32 1065353216 s
theorem ss_1 : sv single 1065353216 = 1 := by rw [sv_of_le single (by rw [s_inf]; omega)]; exact rs_1
theorem faU_ok {s : Nat} (hs : Sh s) : (floatBits .sub .f32 1065353216 s).isSome = true ∧ Sh (faU s) := by
  obtain ⟨s0, s1, s2⟩ := hs
  have sb : Bd .f32 0 s := av_le (by rw [p1_0]; exact s2) (by rw [p1_0]; have : FloatKind.f32.format = single := rfl; rw [this]; grind)
  have ob : Bd .f32 0 1065353216 := Bd.of (by decide)
  obtain ⟨a1, a2, a3⟩ := bd_sub ob sb (by decide)
  rw [show FloatKind.f32.format = single from rfl, ss_1] at a3
  exact ⟨a1, a2.fnt (by decide), rnd_ge0 a3 (by grind), rnd_le 1065353216 a3 rs_1 (by grind)⟩
/-- One letter's part. -/
def faT (s u x y : Nat) : Nat := fA .mul .f32 (exF (faZ s x)) (exF (faZ u y))
theorem faT_ok {s u x y : Nat} (hs : Sh s) (hu : Sh u) (h0 : 0 < x) (hx : x ≤ 1073741824) (k0 : 0 < y) (hy : y ≤ 1073741824) :
    (floatBits .mul .f32 (exF (faZ s x)) (exF (faZ u y))).isSome = true ∧ Bd .f32 64 (faT s u x y) ∧ 0 ≤ sv single (faT s u x y) := by
  obtain ⟨_, a1, a2⟩ := faZ_ok hs h0 hx
  obtain ⟨_, b1, b2⟩ := faZ_ok hu k0 hy
  obtain ⟨c1, c2⟩ := exF_ok a1 a2
  obtain ⟨d1, d2⟩ := exF_ok b1 b2
  obtain ⟨e1, e2, e3⟩ := bd_mul c1 d1 (by decide) (by decide)
  exact ⟨e1, e2, rnd_ge0 e3 (Rat.mul_nonneg c2 d2)⟩
/-- The sum of the parts of the first k letters. -/
def faS (s u : Nat) (xs ys : List Nat) : Nat → Nat
  | 0 => 0
  | k + 1 => fA .add .f32 (faS s u xs ys k) (faT s u (xs[k]?.getD 0) (ys[k]?.getD 0))
/-- A list of chances above zero. -/
def Abv (xs : List Nat) : Prop := ∀ x ∈ xs, 0 < x ∧ x ≤ 1073741824
theorem Abv.at {xs : List Nat} (h : Abv xs) {k : Nat} (hk : k < xs.length) : 0 < xs[k]?.getD 0 ∧ xs[k]?.getD 0 ≤ 1073741824 := by
  rw [List.getElem?_eq_getElem hk]; exact h _ (List.getElem_mem _)
theorem faS_ok {s u : Nat} {xs ys : List Nat} (hs : Sh s) (hu : Sh u) (hx : Abv xs) (hy : Abv ys) (hl : ys.length = xs.length) : ∀ k, k ≤ xs.length → k ≤ 32 → Bd .f32 (64 + k) (faS s u xs ys k) ∧ 0 ≤ sv single (faS s u xs ys k) := by
  intro k
  induction k with
  | zero =>
    intro _ _
    have : sv single 0 = 0 := sv_rg0 (by decide)
    exact ⟨Bd.of (show rg single 0 ≤ WK .f32 64 by decide), by show 0 ≤ sv single 0; rw [this]; exact Rat.le_refl⟩
  | succ k ih =>
    intro hk h32
    obtain ⟨i1, i2⟩ := ih (by omega) (by omega)
    obtain ⟨x1, x2⟩ := hx.at (k := k) (by omega)
    obtain ⟨y1, y2⟩ := hy.at (k := k) (by omega)
    obtain ⟨_, t2, t3⟩ := faT_ok hs hu x1 x2 y1 y2
    obtain ⟨_, a2, a3⟩ := bd_add i1 (t2.mono (by omega : 64 ≤ 64 + k)) (by show 64 + k + 1 ≤ 127; omega)
    exact ⟨a2, rnd_ge0 a3 (by have : FloatKind.f32.format = single := rfl; rw [this]; grind)⟩
theorem faS_some {s u : Nat} {xs ys : List Nat} (hs : Sh s) (hu : Sh u) (hx : Abv xs) (hy : Abv ys) (hl : ys.length = xs.length) {k : Nat} (hk : k < xs.length) (h32 : xs.length ≤ 32) : (floatBits .add .f32 (faS s u xs ys k) (faT s u (xs[k]?.getD 0) (ys[k]?.getD 0))).isSome = true := by
  obtain ⟨i1, _⟩ := faS_ok hs hu hx hy hl k (by omega) (by omega)
  obtain ⟨x1, x2⟩ := hx.at (k := k) (by omega)
  obtain ⟨y1, y2⟩ := hy.at (k := k) (by omega)
  obtain ⟨_, t2, _⟩ := faT_ok hs hu x1 x2 y1 y2
  exact (bd_add i1 (t2.mono (by omega : 64 ≤ 64 + k)) (by show 64 + k + 1 ≤ 127; omega)).1
theorem fA_lt32 {op : BinOp} {x y : Nat} (h : (floatBits op .f32 x y).isSome = true) : fA op .f32 x y < 4294967296 := by
  have := fA_wf h; simpa [Lit.wf] using this
/-- A word of a number that is not below zero. -/
theorem nn_word {x : Nat} (hw : x < 4294967296) (hf : Fnt single x) (h0 : 0 ≤ sv single x) : (sv single x = 0 ∧ (x = 0 ∨ x = 2147483648)) ∨ (0 < x ∧ x < 2139095040) := by
  have hr : rg single x < 2139095040 := by unfold Fnt at hf; rw [s_inf] at hf; exact hf
  rw [rgs] at hr
  by_cases hz : x % 2147483648 = 0
  · exact .inl ⟨sv_rg0 (by rw [rgs]; exact hz), by omega⟩
  · by_cases hx : x < 2147483648
    · exact .inr (by omega)
    · exfalso
      have hg : sg single x = true := by
        unfold sg; rw [s_sw]
        have : x / 2147483648 = 1 := by omega
        rw [this]; rfl
      rw [sv_sg hg] at h0
      have : 0 < rv single (rg single x) := rv_pos (by rw [rgs]; exact hz)
      simp only [if_true] at h0
      grind
/-- The bits of a sum: those of zero are minus infinity. -/
def faB (x : Nat) : Nat := if x % 2147483648 = 0 then 4286578688 else enB x
/-- How far rows are apart. -/
def farF (xs ys : List Nat) (s : Nat) : Nat := fA .sub .f32 0 (faB (faS s (faU s) xs ys xs.length))
theorem sub_ninf : floatBits .sub .f32 0 4286578688 = some 2139095040 := by decide +kernel
theorem far_some {xs ys : List Nat} {s : Nat} (hs : Sh s) (hx : Abv xs) (hy : Abv ys) (hl : ys.length = xs.length) (h32 : xs.length ≤ 32) : (floatBits .sub .f32 0 (faB (faS s (faU s) xs ys xs.length))).isSome = true := by
  obtain ⟨i1, i2⟩ := faS_ok hs (faU_ok hs).2 hx hy hl _ (Nat.le_refl _) h32
  unfold faB
  split
  · rw [sub_ninf]; rfl
  · rename_i hz
    have hw : faS s (faU s) xs ys xs.length < 4294967296 := by
      cases hn : xs.length with
      | zero => exact (by decide : (0 : Nat) < 4294967296)
      | succ k => exact fA_lt32 (faS_some hs (faU_ok hs).2 hx hy hl (k := k) (by omega) h32)
    rcases nn_word hw (i1.fnt (by show 64 + xs.length ≤ 127; omega)) i2 with ⟨_, h | h⟩ | ⟨h1, h2⟩
    · rw [h] at hz; exact absurd rfl hz
    · rw [h] at hz; exact absurd rfl hz
    · exact (bd_sub ((Bd.of (show rg single 0 ≤ WK .f32 0 by decide) : Bd .f32 0 0).mono (by decide)) (enB_bd h1 h2).2 (by decide)).1

end Go.Proofs.Ytmocfnpbofeiiaa

/- The exponential function's contracts, and those of the logarithm at zero. -/
namespace Go.Proofs.Ytmocfnpbofeiiaa
set_option linter.unusedSimpArgs false
set_option linter.unusedVariables false
open Go.RowKit

theorem ord_fge {k : FloatKind} {x y : Nat} (hx : Fnt k.format x) (hy : Fnt k.format y) (h : sv k.format y ≤ sv k.format x) : ∃ o, k.format.order x y = some o ∧ o ≠ .lt := by
  obtain ⟨_, b, c⟩ := order_fin hx hy
  by_cases h1 : sv k.format x = sv k.format y
  · exact ⟨.eq, b.2 h1, by decide⟩
  · exact ⟨.gt, c.2 (by grind), by decide⟩
theorem ord_flt {k : FloatKind} {x y : Nat} (hx : Fnt k.format x) (hy : Fnt k.format y) (h : sv k.format x < sv k.format y) : k.format.order x y = some .lt := (order_fin hx hy).1.2 h
theorem ord_feq {k : FloatKind} {x : Nat} (hx : Fnt k.format x) : k.format.order x x = some .eq := (order_fin hx hx).2.1.2 rfl
theorem f12_ge : ∀ j : Nat, j < 12 → ∃ o, FloatKind.f64.format.order (floatOfInt .f64 (12 - (j : Int))) 4607182418800017408 = some o ∧ o ≠ .lt := by decide +kernel
theorem f12_end : FloatKind.f64.format.order (floatOfInt .f64 (12 - ((12 : Nat) : Int))) 4607182418800017408 = some .lt := by decide +kernel
theorem f12_sub : ∀ j : Nat, j < 12 → (floatBits .sub .f64 (floatOfInt .f64 (12 - (j : Int))) 4607182418800017408).isSome = true ∧ fA .sub .f64 (floatOfInt .f64 (12 - (j : Int))) 4607182418800017408 = floatOfInt .f64 (12 - ((j + 1 : Nat) : Int)) := by decide +kernel
def exI (x : Value) : Nat := ((List.range 13).find? fun (i : Nat) => floatOfInt .f64 (12 - (i : Int)) == fltOf x).getD 0
theorem exI_all : ∀ i : Nat, i < 13 → exI (.float .f64 (floatOfInt .f64 (12 - (i : Int)))) = i := by decide +kernel
theorem fnt200 : Fnt Ieee.single 1128792064 ∧ Fnt Ieee.single 3276275712 ∧ Fnt Ieee.double 4641240890982006784 ∧ Fnt Ieee.double 13864612927836782592 := by
  refine ⟨?_, ?_, ?_, ?_⟩ <;> (unfold Fnt; decide)

set_option maxHeartbeats 2000000 in
theorem implExp_any (z : Nat) (w : World) (hz : Fnt Ieee.single z) (h4 : sv Ieee.single z ≤ 4) :
    Calls Try.prog 102 #[.float .f32 z] w fun e w' => e = .returned (.float .f32 (exF z)) ∧ w = w' := by
  obtain ⟨p1, p2, -, -⟩ := fnt200
  have o1 : FloatKind.f32.format.order z 1128792064 = some .lt := ord_flt (k := .f32) hz p1 (by show sv Ieee.single z < sv Ieee.single _; rw [ss_200]; grind)
  by_cases hlt : sv Ieee.single z < -200
  · have o2 : FloatKind.f32.format.order z 3276275712 = some .lt := ord_flt (k := .f32) hz p2 (by show sv Ieee.single z < sv Ieee.single _; rw [ss_m200]; exact hlt)
    have hr : exF z = 0 := by unfold exF; rw [if_pos hlt]
    rw [hr]
    clear hr hz h4 p1 p2 hlt
    go_enter Try.func102, Try.ntmps102
    go_wp2
    go_ret
    exact ⟨rfl, rfl⟩
  · obtain ⟨o, o2, hol⟩ := ord_fge (k := .f32) hz p2 (by show sv Ieee.single _ ≤ sv Ieee.single z; rw [ss_m200]; grind)
    have hr : exF z = exC z := by unfold exF; rw [if_neg hlt]
    obtain ⟨hb, d1, -, -⟩ := exC_ok hz (by grind) h4
    obtain ⟨c1, -, -⟩ := up_sv hz
    obtain ⟨t1, tb⟩ := ex_t hb
    rw [hr]
    clear hr hz h4 p1 p2 hlt hb
    obtain ⟨r, hr⟩ : ∃ r, r = exC z := ⟨_, rfl⟩
    rw [← hr] at d1
    rw [← hr]
    clear hr
    obtain ⟨y, hy⟩ : ∃ y, y = up64 z := ⟨_, rfl⟩
    rw [← hy] at c1 t1 tb d1
    clear hy
    have htd : fA .quo .f64 y 4643211215818981376 = exT y := rfl
    have hwd : exW y = exS (exP (exT y) 12) 8 := rfl
    rw [hwd] at d1
    clear hwd
    generalize exT y = t at *
    have TB := Lib.hid tb
    have PB := exP_bt tb 12 (by omega)
    have SQ := Lib.hid (exS_all PB).1
    clear tb PB
    have e1 := fun W : World => run_convert_float_float (P := Try.prog) W 32 29 .f32 .f64 z y (by rw [Try.underlying32]; rfl) Try.underlying29 c1
    have E2 : Hid (∀ W : World, _) := Lib.hid (fun W : World => run_convert_float_float (P := Try.prog) W 29 32 .f64 .f32 (exS (exP t 12) 8) r (by rw [Try.underlying29]; rfl) Try.underlying32 d1)
    clear c1 d1
    cases o
    · exact absurd rfl hol
    all_goals
      clear hol
      go_enter Try.func102, Try.ntmps102
      go_wp2
      go_loop [4, 5] (fun q x => ∃ i : Nat, i ≤ 12 ∧ q = .float .f64 (exP t i) ∧ Hid (x = .float .f64 (floatOfInt .f64 (12 - (i : Int))))) (fun q x => 12 - exI x)
      case atStart => exact ⟨0, by omega, rfl, Lib.hid (congrArg (Value.float .f64) (by decide +kernel))⟩
      case round =>
        obtain ⟨i, hi, rfl, hx⟩ := hrel
        obtain ⟨kw, hkw⟩ : ∃ kw, kw = floatOfInt .f64 (12 - (i : Int)) := ⟨_, rfl⟩
        replace hx := hx.out
        rw [← hkw] at hx
        subst hx
        by_cases hi3 : i < 12
        · obtain ⟨o, ho, hol⟩ := f12_ge i hi3
          obtain ⟨k1, k2⟩ := f12_sub i hi3
          obtain ⟨g1, g2, g3, -⟩ := ex_step TB.out (exP_bt TB.out i (by omega)) hi3
          have hq : exP t (i + 1) = fA .add .f64 4607182418800017408 (fA .quo .f64 (fA .mul .f64 t (exP t i)) (floatOfInt .f64 (12 - (i : Int)))) := rfl
          rw [← hkw] at ho k1 k2 g2 g3 hq
          have K2 := Lib.hid k2
          have HQ := Lib.hid hq
          have HK := Lib.hid hkw
          clear k2 hq hkw
          generalize exP t i = pw at *
          cases o
          · exact absurd rfl hol
          all_goals
            clear hol
            go_wp2
            go_round
            case rel => exact ⟨i + 1, by omega, by rw [HQ.out], Lib.hid (congrArg _ K2.out)⟩
            case measure => rw [K2.out, HK.out, exI_all _ (by omega), exI_all _ (by omega)]; omega
        · obtain rfl : i = 12 := by omega
          have ho := f12_end
          rw [← hkw] at ho
          clear hkw
          generalize exP t 12 = pw at *
          go_wp2
          go_loop [4, 27] (fun q x => ∃ j : Nat, j ≤ 8 ∧ q = .float .f64 (exS pw j) ∧ x = .int .i64 (j : Int)) (fun q x => 8 - (intOf x).toNat)
          case atStart => exact ⟨0, by omega, rfl, rfl⟩
          case round =>
            obtain ⟨j, hj, rfl, rfl⟩ := hrel
            by_cases hj8 : j < 8
            · have hsq := SQ.out j hj8
              have hq : exS pw (j + 1) = fA .mul .f64 (exS pw j) (exS pw j) := rfl
              have HQ := Lib.hid hq
              clear hq
              generalize exS pw j = sw at *
              go_wp2
              go_round
              case rel => exact ⟨j + 1, by omega, by rw [HQ.out], by go_num⟩
              case measure => simp [intOf]; omega
            · obtain rfl : j = 8 := by omega
              have e2 := E2.out
              generalize exS pw 8 = sw at *
              go_wp2
              go_ret
              exact ⟨rfl, rfl⟩

set_option maxHeartbeats 1000000 in
theorem mathInf_neg (w : World) : Calls Try.prog 125 #[.int .i64 (-1)] w fun e w' => e = .returned (.float .f64 18442240474082181120) ∧ w = w' := by
  have hx : ∀ W : World, (callFunc 144 #[.int .u64 18442240474082181120]).run Try.prog W = .ok (.value (.float .f64 18442240474082181120)) W := fun W => by
    rw [run_callFunc_extern (e := Extern.MathFloatBits.float64frombits) Try.func144 (by kernel_rfl) (by kernel_rfl) (by kernel_rfl) (by kernel_rfl)]
    rfl
  go_enter Try.func125, Try.ntmps125
  go_wp2
  go_ret
  exact ⟨rfl, rfl⟩

end Go.Proofs.Ytmocfnpbofeiiaa

/- slices.Concat of two lists of single words, and slices.ContainsFunc over them. -/
namespace Go.Proofs.Ytmocfnpbofeiiaa
set_option linter.unusedSimpArgs false
set_option linter.unusedVariables false
open Go.RowKit

/-- A call hands back a list at and above block B, in cells of its own. -/
def RetGr (B : Nat) (T : TypeId) (e : Ending) (w w' : World) : Prop := ∃ c, e = .returned (.slice (some ⟨B, 0, none⟩) 0 c) ∧ w'.ownsRow B T 1 (.slice (some ⟨B, 0, none⟩) 0 c) 0 [] ∧ Below B w w'

set_option maxRecDepth 10000 in
set_option maxHeartbeats 2000000 in
theorem growF_any (n : Nat) (w : World) (h1 : 1 ≤ n) (h2 : n ≤ 1000) :
    Calls Try.prog 135 #[.slice none 0 0, .int .i64 (n : Int)] w fun e w' => RetGr w.heap.size 32 e w w' := by
  obtain ⟨i0, hi0, hz0, hz1, hz2⟩ := info_parts info_Float32S
  have hold : (Builtin.firstCells i0.size 0 (.slice none 0 0)).run Try.prog w.drew = .ok ([] : List Value).toArray w.drew := run_firstCells_none w.drew i0.size 0 0 0
  have hrz : ∀ ty, (Builtin.append_ #[25, 3] ty #[.slice none 0 0, .int .i64 (n : Int)]).run Try.prog w =
      .ok (.slice (some ⟨w.heap.size, 0, none⟩) n (grownCap w n 0 32)) (w.drew.alloc (.cells (([] : List Value).toArray ++ Builtin.zeroCells (Value.float .f32 0).cells n ++ Builtin.zeroCells (Value.float .f32 0).cells (grownCap w n 0 32 - n)) 32)) := fun ty => by
    have h := Lib.run_append_grow_zeros w 25 3 ty 32 i0 (.float .f32 0) .i64 .i64 Try.underlying25 Try.underlying3 hi0 hz0 none 0 0 [] hold n (by omega) (by omega) (by omega) (by omega) (by rw [hz2]; omega)
      (by have := growslice_fits (need := 0 + n) (old := 0) (bytes := i0.bytes) (by omega) (by rw [hz2]; omega)
          exact this)
    rw [Nat.zero_add] at h
    exact h
  have hGn : n ≤ grownCap w n 0 32 := grownCap_ge w _ _ _
  have hGm : grownCap w n 0 32 ≤ maxLen := grownCap_le_maxLen w n 0 32 (by unfold maxLen; omega)
  obtain ⟨G, hG⟩ : ∃ G, G = grownCap w n 0 32 := ⟨_, rfl⟩
  rw [← hG] at hrz hGn hGm
  have hG63 : G ≤ 9223372036854775807 := by unfold maxLen at hGm; omega
  clear hold hG
  obtain ⟨cur, hcur⟩ : ∃ cur, cur = (([] : List Value).toArray ++ Builtin.zeroCells (Value.float .f32 0).cells n ++ Builtin.zeroCells (Value.float .f32 0).cells (G - n)) := ⟨_, rfl⟩
  have hcs : cur.size = G := by rw [hcur]; simp [Builtin.zeroCells, Value.cells]; omega
  rw [← hcur] at hrz
  clear hcur
  have fin : RetGr w.heap.size 32 (.returned (.slice (some ⟨w.heap.size, 0, none⟩) 0 G)) w (w.drew.alloc (.cells cur 32)) := by
    refine ⟨G, rfl, ⟨rfl, .inr ⟨w.heap.size, G, cur, rfl, Nat.le_refl _, ?_, Nat.zero_le _, hGm, by rw [hcs, Nat.mul_one], by simp⟩⟩, ?_⟩
    · show (w.heap.push _)[w.heap.size]? = _
      simp
    · exact (Below.drew (Below.refl _ _)).alloc (Nat.le_refl _) _
  have FIN := Lib.hid fin
  clear fin
  go_enter Try.func135, Try.ntmps135
  go_wp2_with (at_builtin; refine Lib.wpList_append_run _ rfl _ _ _ _ rfl _ _ rfl rfl _ _ (hrz _) ?_)
  all_goals
    go_ret
    exact FIN.out
theorem add_at (b o j : Nat) : (⟨b, o, none⟩ : Addr).add j = ⟨b, o + j, none⟩ := by
  unfold Addr.add
  split
  · rename_i h; rw [h]; rfl
  · rfl
theorem flt_oneCell (xs : List Nat) : ∀ u ∈ xs.map (Value.float .f32), u.oneCell' = true := by
  intro u hu
  obtain ⟨x, -, rfl⟩ := List.mem_map.1 hu
  rfl

set_option maxHeartbeats 4000000 in
theorem concatF_any (b b1 o1 c1 b2 o2 c2 : Nat) (xs ys : List Nat) (w : World) (h0 : w.cell? ⟨b, 0, none⟩ = some (.slice (some ⟨b1, o1, none⟩) xs.length c1)) (h1 : w.cell? ⟨b, 1, none⟩ = some (.slice (some ⟨b2, o2, none⟩) ys.length c2))
    (hv : ∀ j u, (xs.map (Value.float .f32))[j]? = some u → w.cell? ⟨b1, o1 + j, none⟩ = some u) (hu : ∀ j u, (ys.map (Value.float .f32))[j]? = some u → w.cell? ⟨b2, o2 + j, none⟩ = some u) (n1 : 1 ≤ xs.length) (n2 : xs.length ≤ 100) (m2 : ys.length ≤ 100) :
    Calls Try.prog 110 #[.slice (some ⟨b, 0, none⟩) 2 2] w (RetSl w 32 (xs ++ ys).length ((xs ++ ys).map (Value.float .f32)) (fun v => v)) := by
  obtain ⟨i0, hi0, hz0, hz1, hz2⟩ := info_parts info_Float32S
  have hl0 := World.block_lt_of_cell? w _ h0
  have HV := Lib.hid hv
  have HU := Lib.hid hu
  have H0 := Lib.hid h0
  have H1 := Lib.hid h1
  obtain ⟨n, hn⟩ : ∃ n, n = xs.length := ⟨_, rfl⟩
  obtain ⟨m, hm⟩ : ∃ m, m = ys.length := ⟨_, rfl⟩
  rw [← hn] at h0 n1 n2 H0
  rw [← hm] at h1 m2 H1
  have HN := Lib.hid hn
  have HM := Lib.hid hm
  obtain ⟨N, hNN⟩ : ∃ N, N = n + m := ⟨_, rfl⟩
  have HNN := Lib.hid hNN
  clear hv hu hn hm hNN
  go_enter Try.func110, Try.ntmps110
  go_wp2
  go_loop [3, 11] (fun s i => (i = .int .i64 0 ∧ s = .int .i64 0) ∨ (i = .int .i64 1 ∧ s = .int .i64 (n : Int)) ∨ (i = .int .i64 2 ∧ s = .int .i64 (N : Int))) (fun _ i => (2 - intOf i).toNat)
  case atStart => exact .inl ⟨rfl, rfl⟩
  case round =>
    rcases hrel with ⟨rfl, rfl⟩ | ⟨rfl, rfl⟩ | ⟨rfl, rfl⟩
    · have k1 : ¬ (n : Int) < 0 := by omega
      go_wp2
      go_round
      case rel => exact .inr (.inl ⟨by go_num, by go_num⟩)
      case measure => simp [intOf]
    · have k1 : ¬ (n : Int) + (m : Int) < 0 := by omega
      go_wp2
      go_round
      case rel => exact .inr (.inr ⟨by go_num, by rw [HNN.out]; go_num⟩)
      case measure => simp [intOf]
    · clear h0 h1
      go_wp2_with (go_at_call 135; refine (growF_any N _ (by have := HNN.out; omega) (by have := HNN.out; omega)).mono ?_; rintro e w1 ⟨C, rfl, hown0, hb0⟩)
      go_loopw [6, 27] (fun q i wr => ∃ (k : Nat) (zs : List Nat) (a : Option Addr) (c : Nat), i = .int .i64 (k : Int) ∧ ((k = 0 ∧ zs = []) ∨ (k = 1 ∧ xs = zs) ∨ (k = 2 ∧ zs = xs ++ ys)) ∧ q = .slice a zs.length c ∧ wr.ownsRow w.heap.size 32 1 (.slice a zs.length c) zs.length (zs.map (Value.float .f32)) ∧ Below w.heap.size w wr) (fun _ i _ => (2 - intOf i).toNat)
      case atStart => exact ⟨0, [], _, _, rfl, .inl ⟨rfl, rfl⟩, rfl, hown0, hb0⟩
      case round =>
        clear hown0 hb0
        obtain ⟨k, zs, a, c, rfl, hk, rfl, hown, hb⟩ := hrel
        have g0 := cell_step H0.out hb
        have g1 := cell_step H1.out hb
        rcases hk with ⟨rfl, rfl⟩ | ⟨rfl, rfl⟩ | ⟨rfl, rfl⟩
        · have gv : ∀ j u, (xs.map (Value.float .f32))[j]? = some u → wr.cell? ((⟨b1, o1, none⟩ : Addr).add j) = some u := fun j u hu => by rw [add_at]; exact cell_step (HV.out j u hu) hb
          have GV := Lib.hid gv
          clear gv
          go_wp2_with (at_builtin; refine wpList_append_own _ rfl _ _ 25 rfl w.heap.size 32 i0 (.float .f32 0) 1 4 Try.underlying25 hi0 hz0 hz1 hz2 rfl (by decide) _ _ _ rfl hown ⟨b1, o1, none⟩ n c1 (xs.map (Value.float .f32)) rfl (by rw [List.length_map, HN.out, Nat.mul_one]) GV.out (flt_oneCell xs) (by simp only [List.length_nil]; unfold maxLen; omega) (by simp only [List.length_nil]; omega) hb.size ?_; intro v' w' hown' hg' _)
          have hb' : Below w.heap.size w w' := hb.trans (grown_below hg' hown (Nat.le_refl _) hb.size)
          obtain ⟨a', c', rfl⟩ := ownsRow_shape hown'
          go_roundw
          case rel => exact ⟨1, xs, a', c', by go_num, .inr (.inl ⟨rfl, rfl⟩), by rw [← HN.out]; simp, by rw [← HN.out]; simpa using hown', hb'⟩
          case measure => simp [intOf]
        · have gv : ∀ j u, (ys.map (Value.float .f32))[j]? = some u → wr.cell? ((⟨b2, o2, none⟩ : Addr).add j) = some u := fun j u hu => by rw [add_at]; exact cell_step (HU.out j u hu) hb
          have GV := Lib.hid gv
          clear gv
          go_wp2_with (at_builtin; refine wpList_append_own _ rfl _ _ 25 rfl w.heap.size 32 i0 (.float .f32 0) 1 4 Try.underlying25 hi0 hz0 hz1 hz2 rfl (by decide) _ _ _ rfl hown ⟨b2, o2, none⟩ m c2 (ys.map (Value.float .f32)) rfl (by rw [List.length_map, HM.out, Nat.mul_one]) GV.out (flt_oneCell ys) (by rw [← HN.out]; unfold maxLen; omega) (by rw [← HN.out]; omega) hb.size ?_; intro v' w' hown' hg' _)
          have hb' : Below w.heap.size w w' := hb.trans (grown_below hg' hown (Nat.le_refl _) hb.size)
          obtain ⟨a', c', rfl⟩ := ownsRow_shape hown'
          go_roundw
          case rel => exact ⟨2, xs ++ ys, a', c', by go_num, .inr (.inr ⟨rfl, rfl⟩), by rw [List.length_append, ← HM.out], by rw [List.length_append, List.map_append, ← HM.out]; exact hown', hb'⟩
          case measure => simp [intOf]
        · go_wp2
          go_ret
          exact ⟨_, _, rfl, hown, hb⟩

end Go.Proofs.Ytmocfnpbofeiiaa
