/- Smoothed rows (SmoothRow at 1). -/
import Derived.Test.YtmocfnpbofeiiaaMEnT
import Derived.Test.YtmocfnpbofeiiaaMRcC
import Derived.Test.YtmocfnpbofeiiaaMEnR
namespace Go.Proofs.Ytmocfnpbofeiiaa
set_option linter.unusedSimpArgs false
set_option linter.unusedVariables false
open Go.RowKit
open Ieee
theorem ps_one_of {cs : List Nat} {n : Nat} (hl : cs.length = n) (h1 : 1 ≤ cs.sum) : smN (psC cs) n = 1 := by
  have hs : ((cs.sum : Nat) : Rat) ≠ 0 := by
    have : (1 : Rat) ≤ ((cs.sum : Nat) : Rat) := by exact_mod_cast h1
    grind
  have key : ∀ m, m ≤ n → smN (psC cs) m = (((cs.take m).sum : Nat) : Rat) / ((cs.sum : Nat) : Rat) := by
    intro m
    induction m with
    | zero => intro _; simp only [smN, List.take_zero, List.sum_nil]; rw [show ((0 : Nat) : Rat) = 0 from rfl]; grind
    | succ m ih =>
      intro hm
      simp only [smN]
      rw [ih (by omega), sum_take cs (by omega), Rat.natCast_add]
      unfold psC
      grind
  rw [key n (Nat.le_refl _), List.take_of_length_le (by omega)]
  grind
theorem Cn.sm {cs : List Nat} {n : Nat} (h : Cn cs n) (n1 : 1 ≤ n) (n8 : n ≤ 8) : Rw1 (1 / 8000000) (rowK (plus 1 cs)) n (psC (plus 1 cs)) := by
  have hl : (plus 1 cs).length = n := by rw [plus_len, h.len]
  have hs := plus_sum 1 cs
  rw [h.len] at hs
  obtain ⟨s1, s2⟩ := h.sum n1
  refine ⟨by rw [rowK_len, hl], n1, by omega, fun i hi => ?_, ps_one_of hl (by omega)⟩
  obtain ⟨c1, c2, _⟩ := h.at n1 hi
  have e : (rowK (plus 1 cs))[i]?.getD 0 = qwC ((plus 1 cs)[i]?.getD 0) (plus 1 cs).sum := by
    simp only [rowK, List.getElem?_map]
    rw [List.getElem?_eq_getElem (by rw [hl]; exact hi)]
    rfl
  rw [e]
  have g := plus_get 1 cs (k := i) (by rw [h.len]; exact hi)
  unfold psC
  exact (rq_cntW (by omega) (by omega) (by omega) (by omega)).2
theorem Cn.sm0 {cs : List Nat} {n : Nat} (h : Cn cs n) (n1 : 1 ≤ n) {i : Nat} (hi : i < n) : psC (plus 1 cs) i ≠ 0 := by
  have hs := plus_sum 1 cs
  obtain ⟨s1, s2⟩ := h.sum n1
  have g := plus_get 1 cs (k := i) (by rw [h.len]; exact hi)
  unfold psC
  rw [g]
  have a : (1 : Rat) ≤ ((cs[i]?.getD 0 + 1 : Nat) : Rat) := by exact_mod_cast (show 1 ≤ cs[i]?.getD 0 + 1 by omega)
  have b : (1 : Rat) ≤ (((plus 1 cs).sum : Nat) : Rat) := by exact_mod_cast (show 1 ≤ (plus 1 cs).sum by omega)
  intro hc
  have := Rat.div_mul_cancel (a := ((cs[i]?.getD 0 + 1 : Nat) : Rat)) (b := (((plus 1 cs).sum : Nat) : Rat)) (by grind)
  rw [hc, Rat.zero_mul] at this
  grind
theorem Cn.cov {cs ds : List Nat} {n : Nat} (h : Cn cs n) (g : Cn ds n) (n1 : 1 ≤ n) (n8 : n ≤ 8) : Cov (rowK cs) (rowK (plus 1 ds)) n (psC cs) (psC (plus 1 ds)) :=
  ⟨h.rw1 n1 (by omega), g.sm n1 n8, n8, fun i hi _ => g.sm0 n1 hi⟩

end Go.Proofs.Ytmocfnpbofeiiaa

/- How far rows are, nearer (FarOfRows). -/
namespace Go.Proofs.Ytmocfnpbofeiiaa
set_option linter.unusedSimpArgs false
set_option linter.unusedVariables false
open Go.RowKit
open Ieee
theorem Two.nearer {xs ys : List Nat} {n : Nat} {p q : Nat → Rat} (h : Two xs ys n p q) : ∀ t, t ≤ n → Ap .f32 (fdS xs ys t) (smN (fun i => av (p i - q i)) t) ((t : Rat) * (1 / 1200000)) ∧ 0 ≤ smN (fun i => av (p i - q i)) t ∧ smN (fun i => av (p i - q i)) t ≤ smN p t + smN q t := by
  intro t
  induction t with
  | zero =>
    intro _
    simp only [smN, fdS]
    rw [show ((0 : Nat) : Rat) = 0 from rfl, Rat.zero_mul]
    exact ⟨zero_ap, Rat.le_refl, by decide +kernel⟩
  | succ t ih =>
    intro ht
    obtain ⟨i1, i2, i3⟩ := ih (by omega)
    obtain ⟨_, _, _, t4, t5, t6⟩ := h.term (show t < n by omega)
    have p0 := av_nonneg (p t - q t)
    have k1 := nat_rat (show t ≤ 7 by have := h.n8; omega)
    rw [show ((7 : Nat) : Rat) = 7 from rfl] at k1
    have k0 := nat_rat0 t
    have a1 := h.r.le1 (show t < n by omega)
    have b1 := h.s.le1 (show t < n by omega)
    have P1 := smN_mono (fun i hi => (h.r.le1 hi).1) (t + 1) (show t + 1 ≤ n by omega)
    have Q1 := smN_mono (fun i hi => (h.s.le1 hi).1) (t + 1) (show t + 1 ≤ n by omega)
    rw [h.r.one] at P1
    rw [h.s.one] at Q1
    simp only [smN, fdS] at P1 Q1 ⊢
    have tri : av (p t - q t) ≤ p t + q t := av_le (by grind) (by grind)
    have c1 : ulp .f32 ≤ 1 / 8388608 := by decide +kernel
    have c2 : tin .f32 ≤ 1 / 100000000000000000000 := by decide +kernel
    have c3 : 0 ≤ ulp .f32 := by decide +kernel
    have c4 : (17 : Rat) ≤ huge .f32 := by decide +kernel
    have c5 := Rat.mul_le_mul_of_nonneg_left c1 (show (0 : Rat) ≤ 2 + ((t : Rat) * (1 / 1200000) + 1 / 2000000) by grind)
    refine ⟨(ap_add (k := .f32) (A := 2) i1 t4 (by rw [av_of_nonneg (by grind)]; grind) (by grind) ?_).2, by grind, by grind⟩
    rw [nat_rat1]
    grind
theorem Two.farN {xs ys : List Nat} {n : Nat} {p q : Nat → Rat} (h : Two xs ys n p q) : Ap .f32 (faW xs ys n) (FxE p q n / 2) (1 / 250000) ∧ FxE p q n ≤ 2 ∧ 0 ≤ FxE p q n := by
  obtain ⟨A, A2, A3⟩ := h.nearer n (Nat.le_refl _)
  rw [h.r.one, h.s.one] at A3
  have k1 := nat_rat h.n8
  rw [show ((8 : Nat) : Rat) = 8 from rfl] at k1
  have two : Ap .f32 1073741824 2 0 := Ap.ex (k := .f32) (fin_of_lt single (by rw [s_inf]; omega)) (by decide +kernel)
  obtain ⟨_, b2⟩ := ap_div (k := .f32) (E := 1 / 250000) (A.mono (show (n : Rat) * (1 / 1200000) ≤ 1 / 150000 by grind)) two (c := 2) (Q := 1) (by decide +kernel) (by decide +kernel) (by rw [av_of_nonneg (by grind)]; grind) (by decide +kernel) (by decide +kernel)
  exact ⟨b2, by unfold FxE; grind, A2⟩

end Go.Proofs.Ytmocfnpbofeiiaa

/- Sums of words that are 0 or not small, below one: half a place each. Plain: no program. -/
namespace Go.Proofs.Ytmocfnpbofeiiaa
set_option linter.unusedSimpArgs false
set_option linter.unusedVariables false
open Ieee
/-- Words that are 0 or not small, and add up to about one. -/
structure Sw (b : Nat → Nat) (n : Nat) : Prop where
  n8 : n ≤ 8
  lt : ∀ i, i < n → b i < 2139095040
  lo : ∀ i, i < n → b i ≠ 0 → 1 / 65 ≤ sv single (b i)
  one : ∀ t, t ≤ n → smN (fun i => sv single (b i)) t ≤ 1 + 16 / 100000000
def swS (b : Nat → Nat) : Nat → Nat
  | 0 => 0
  | t + 1 => fA .add .f32 (swS b t) (b t)
theorem Sw.sum {b : Nat → Nat} {n : Nat} (h : Sw b n) : ∀ t, t ≤ n → (swS b t < 1073741824 ∧ 0 ≤ sv single (swS b t) ∧ (swS b t < 1065353216 → av (sv single (swS b t) - smN (fun i => sv single (b i)) t) ≤ (t : Rat) / 33554432) ∧ (1065353216 ≤ swS b t → av (sv single (swS b t) - smN (fun i => sv single (b i)) t) ≤ ((t : Rat) + 1) / 33554432)) ∧ (t < n → (floatBits .add .f32 (swS b t) (b t)).isSome = true) := by
  have step : ∀ t, t < n → (swS b t < 1073741824 ∧ 0 ≤ sv single (swS b t) ∧ (swS b t < 1065353216 → av (sv single (swS b t) - smN (fun i => sv single (b i)) t) ≤ (t : Rat) / 33554432) ∧ (1065353216 ≤ swS b t → av (sv single (swS b t) - smN (fun i => sv single (b i)) t) ≤ ((t : Rat) + 1) / 33554432)) → (floatBits .add .f32 (swS b t) (b t)).isSome = true ∧ (swS b (t + 1) < 1073741824 ∧ 0 ≤ sv single (swS b (t + 1)) ∧ (swS b (t + 1) < 1065353216 → av (sv single (swS b (t + 1)) - smN (fun i => sv single (b i)) (t + 1)) ≤ ((t + 1 : Nat) : Rat) / 33554432) ∧ (1065353216 ≤ swS b (t + 1) → av (sv single (swS b (t + 1)) - smN (fun i => sv single (b i)) (t + 1)) ≤ (((t + 1 : Nat) : Rat) + 1) / 33554432)) := by
    rintro t ht ⟨i1, i2, i3, i4⟩
    have r4 := h.lt t ht
    have m3 := h.lo t ht
    have m4 : 0 ≤ sv single (b t) := by rw [sv_of_le single (by rw [s_inf]; omega)]; exact rv_nonneg _ _
    have r5 : b t = 0 → b t = 0 := id
    have B1 := h.one (t + 1) (by omega)
    have k1 := nat_rat (show t ≤ 8 by have := h.n8; omega)
    rw [show ((8 : Nat) : Rat) = 8 from rfl] at k1
    have k0 := nat_rat0 t
    simp only [smN, swS] at B1 ⊢
    rw [nat_rat1]
    have fS : Fnt single (swS b t) := fin_of_lt single (by rw [s_inf]; omega)
    have fb : Fnt single (b t) := fin_of_lt single (by rw [s_inf]; omega)
    obtain ⟨w, w1, w2, _⟩ := add_spec (k_hf .f32) fS fb
    obtain ⟨c1, c2⟩ := fA_of (op := .add) (k := .f32) w1
    rw [show FloatKind.f32.format = single from rfl] at w2
    refine ⟨c1, ?_⟩
    rw [c2]
    have z0 : b t = 0 → sv single (b t) = 0 := fun e => by rw [e]; decide +kernel
    generalize hS : swS b t = S at *
    generalize hBt : smN (fun i => sv single (b i)) t = B at *
    generalize hbb : sv single (b t) = y at *
    by_cases hc : S < 1065353216
    · have I := i3 hc
      by_cases ha : sv single S + y = 0
      · have s0 : sv single S = 0 := by grind
        have b0 : y = 0 := by grind
        have S0 : S = 0 := by
          rcases Nat.eq_zero_or_pos S with e | e
          · exact e
          · have := rv_pos (f := single) (r := S) (by omega)
            rw [← sv_of_le single (by rw [s_inf]; omega), s0] at this
            exact absurd this (by decide +kernel)
        have M0 : b t = 0 := by
          by_cases e : b t = 0
          · exact e
          · have := m3 e; grind
        have w0 : w = 0 := by
          rw [← c2, S0, r5 M0]
          decide +kernel
        rw [s0] at I
        rw [w0, b0, Rat.add_zero, show sv single 0 = 0 by decide +kernel]
        exact ⟨by omega, by grind, fun _ => by grind, fun _ => by grind⟩
      · have a0 : 0 < sv single S + y := by grind
        have J1 := neg_le_av (sv single S - B)
        have J2 := le_av (sv single S - B)
        have hw := w2.pos a0
        have hr : rg single w ≤ 1073741823 := w2.le (by
          rw [av_of_nonneg (Rat.le_of_lt a0)]
          exact Rat.le_trans (show sv single S + y ≤ 3 / 2 by grind) (by decide +kernel))
        rw [rg_of_le single hw] at hr
        have hn := rnd_ge0 w2 (Rat.le_of_lt a0)
        have A := av_add (sv single w - (sv single S + y)) (sv single S - B)
        rw [show sv single w - (sv single S + y) + (sv single S - B) = sv single w - (B + y) by grind] at A
        refine ⟨by omega, hn, fun hlt => ?_, fun hge => ?_⟩
        · have := err_lt1 w2 hlt
          grind
        · have := err_lt2 w2 (by omega)
          grind
    · have I := i4 (by omega)
      have J1 := le_av (sv single S - B)
      have S1 : 1 ≤ sv single S := by
        rw [sv_of_le single (by rw [s_inf]; omega), ← rs_1]
        exact rv_le _ (by omega)
      have M0 : b t = 0 := by
        by_cases e : b t = 0
        · exact e
        · have := m3 e; grind
      have b0 := z0 M0
      rw [b0, Rat.add_zero] at w2
      rw [b0, Rat.add_zero]
      have hw := w2.pos (by grind)
      obtain ⟨_, e2⟩ := rnd_exact w2 (r := S) (by rw [sv_of_le single (by rw [s_inf]; omega), av_of_nonneg (rv_nonneg _ _)]) (by rw [s_inf]; omega)
      have hr : rg single w ≤ S := w2.le (by rw [sv_of_le single (by rw [s_inf]; omega), av_of_nonneg (rv_nonneg _ _)]; exact Rat.le_refl)
      rw [rg_of_le single hw] at hr
      rw [e2]
      exact ⟨by omega, by grind, fun _ => by grind, fun _ => by grind⟩
  have all : ∀ t, t ≤ n → (swS b t < 1073741824 ∧ 0 ≤ sv single (swS b t) ∧ (swS b t < 1065353216 → av (sv single (swS b t) - smN (fun i => sv single (b i)) t) ≤ (t : Rat) / 33554432) ∧ (1065353216 ≤ swS b t → av (sv single (swS b t) - smN (fun i => sv single (b i)) t) ≤ ((t : Rat) + 1) / 33554432)) := by
    intro t
    induction t with
    | zero => intro _; simp only [smN, swS]; rw [show ((0 : Nat) : Rat) = 0 from rfl]; decide +kernel
    | succ t ih => intro ht; exact (step t (by omega) (ih (by omega))).2
  exact fun t ht => ⟨all t ht, fun h1 => (step t h1 (all t ht)).1⟩

end Go.Proofs.Ytmocfnpbofeiiaa
