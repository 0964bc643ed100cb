/- How far rows are apart, near the exact value. Plain: no program. -/
import Derived.Test.YtmocfnpbofeiiaaMSnG
import Derived.Test.YtmocfnpbofeiiaaMSu32
import Derived.Test.YtmocfnpbofeiiaaMFth
namespace Go.Proofs.Ytmocfnpbofeiiaa
set_option linter.unusedSimpArgs false
set_option linter.unusedVariables false
open Ieee

/-- Single words from e^-3 to 1. -/
def Cw (x : Nat) : Prop := 0 < x ∧ x ≤ 1065353216 ∧ -3 ≤ Ln (sv single x)
theorem cw_val {x : Nat} (h0 : 0 < x) (h1 : x ≤ 1065353216) : 0 < sv single x ∧ sv single x ≤ 1 ∧ Ln (sv single x) ≤ 2 * eta := by
  have e : sv single x = rv single x := sv_of_le single (by rw [s_inf]; omega)
  have p : 0 < sv single x := by rw [e]; exact rv_pos (by omega)
  have l : sv single x ≤ 1 := by rw [e, ← rs_1]; exact rv_le _ h1
  refine ⟨p, l, ?_⟩
  have := Ln_le p
  grind
theorem lnF_np {x : Nat} (h0 : 0 < x) (h1 : x ≤ 1065353216) : sv single (lnF x) ≤ 0 := by
  by_cases h : x = 1065353216
  · subst h; decide +kernel
  · obtain ⟨_, _, hr⟩ := lnF_some h0 (by omega)
    obtain ⟨_, u1, u2⟩ := up64_pos h0 (show x < 2139095040 by omega)
    have hf : Fnt single x := fin_of_lt single (by rw [s_inf]; omega)
    obtain ⟨_, _, us⟩ := ap_up (Ap.self (k := .f32) hf)
    have hl := (lnW_ap u1 (by omega)).2
    rw [us] at hl
    refine rnd_le (c := 0) 0 hr (rv_zero _) ?_
    have e : sv single x = rv single x := sv_of_le single (by rw [s_inf]; omega)
    have k : sv single x ≤ 1 - 1 / 20000000 := by
      rw [e]
      refine Rat.le_trans (rv_le single (show x ≤ 1065353215 by omega)) ?_
      decide +kernel
    have := Ln_le (cw_val h0 h1).1
    have := Rat.le_trans (le_av _) hl
    have he : eta ≤ 1 / 1000000000000 := by decide +kernel
    rw [show FloatKind.f64.format = double from rfl] at *
    generalize sv double (lnW (up64 x)) = s at *
    generalize Ln (sv single x) = l at *
    generalize sv single x = v at *
    clear hl hr
    grind
theorem lnF_cw {x : Nat} (h : Cw x) : Ap .f32 (lnF x) (Ln (sv single x)) (1 / 2700000) ∧ -(301 / 100) ≤ sv single (lnF x) ∧ sv single (lnF x) ≤ 0 := by
  obtain ⟨h0, h1, h2⟩ := h
  obtain ⟨_, _, h3⟩ := cw_val h0 h1
  have he : eta ≤ 1 / 1000000 := by decide +kernel
  have a := lnF_ap (B := 3) (E := 1 / 2700000) h0 (by omega) (av_le (by grind) (by grind)) (by decide +kernel) (by decide +kernel)
  refine ⟨a, ?_, lnF_np h0 h1⟩
  have := Rat.le_trans (neg_le_av _) a.2
  rw [show FloatKind.f32.format = single from rfl] at this
  clear h0 h1 a
  generalize sv single (lnF x) = s at *
  generalize Ln (sv single x) = l at *
  grind
/-- A share of a number below zero. -/
theorem share_le {s l : Rat} (s1 : 0 ≤ s) (s2 : s ≤ 1) (l2 : -(301 / 100) ≤ l) (l3 : l ≤ 0) : s * l ≤ 0 ∧ -4 ≤ s * l ∧ av (s * l) ≤ s * (301 / 100) ∧ av (s * l) ≤ 4 := by
  have b0 := Rat.mul_le_mul_of_nonneg_left l3 s1
  have b1 := Rat.mul_le_mul_of_nonneg_left l2 s1
  exact ⟨by grind, by grind, av_le (by grind) (by grind), av_le (by grind) (by grind)⟩
theorem share_err {s l a w : Rat} (s1 : 0 ≤ s) (hl : av (a - l) ≤ 1 / 2700000) (av1 : av (s * a) ≤ s * (301 / 100)) (er : av (w - s * a) ≤ av (s * a) * es + ts) : av (w - s * l) ≤ s * (1 / 1350000) + ts := by
  have k1 := Rat.mul_le_mul_of_nonneg_right av1 (show 0 ≤ es by decide +kernel)
  have k2 := av_mul_le' (a := s) (A := s) (by rw [av_of_nonneg s1]; exact Rat.le_refl) hl
  have k3 := av_add_le er k2
  rw [show w - s * a + s * (a - l) = w - s * l by grind] at k3
  refine Rat.le_trans k3 ?_
  have c : (301 / 100) * es ≤ 1 / 2700000 := by decide +kernel
  have k4 := Rat.mul_le_mul_of_nonneg_left c s1
  clear k2 k3 er hl
  generalize av (s * a) = v at *
  generalize es = e at *
  generalize ts = t at *
  grind
/-- The share's part of a logarithm. -/
theorem faZ_ap {s x : Nat} (hs : Sh s) (hx : Cw x) : Fnt single (faZ s x) ∧ sv single (faZ s x) ≤ 0 ∧ -4 ≤ sv single (faZ s x) ∧ av (sv single (faZ s x) - sv single s * Ln (sv single x)) ≤ sv single s * (1 / 1350000) + ts := by
  obtain ⟨l1, l2, l3⟩ := lnF_cw hx
  obtain ⟨s0, s1, s2⟩ := hs
  obtain ⟨w, h1, h2⟩ := mul_rnd s_hf s0 l1.1
  obtain ⟨a1, a2⟩ := fA_of (op := .mul) (k := .f32) h1
  have e : faZ s x = w := a2
  rw [e]
  have hl := l1.2
  rw [show FloatKind.f32.format = single from rfl] at hl
  obtain ⟨b0, b1, b2, b3⟩ := share_le s1 s2 l2 l3
  have n0 : sv single w ≤ 0 := rnd_le (c := 0) 0 h2 (rv_zero _) b0
  have n1 : -4 ≤ sv single w := rnd_ge (c := 4) 1082130432 h2 rs_4 b1
  have hb : Fnt single w := (bd_rnd (k := .f32) (e := 2) h2 (by rw [show pv 1 ((2 : Nat) : Int) = 4 by decide +kernel]; exact b3)).fnt (by decide)
  exact ⟨hb, n0, n1, share_err s1 hl b2 (err_s h2 hb)⟩
/-- All errors of a letter's part put together. -/
theorem part_err {s u z1 z2 lx ly e1 e2 E : Rat} (s1 : 0 ≤ s) (s2 : s ≤ 1) (u1 : 0 ≤ u) (u2 : u ≤ 1) (hu : av (u - (1 - s)) ≤ 1 / 8300000) (hy : av ly ≤ 3 + 1 / 1000000) (hz1 : av (z1 - s * lx) ≤ s * (1 / 1350000) + ts) (hz2 : av (z2 - u * ly) ≤ u * (1 / 1350000) + ts) (z1l : -4 ≤ z1) (z2l : -4 ≤ z2) (z1u : z1 ≤ 0) (z2u : z2 ≤ 0)
    (e1p : 0 < e1) (e2p : 0 < e2) (h1 : av (Ln e1 - z1) ≤ 1 / 6500000) (h2 : av (Ln e2 - z2) ≤ 1 / 6500000) (hE : av (E - e1 * e2) ≤ av (e1 * e2) * es + ts) : 0 < E ∧ av (Ln E - (s * lx + (1 - s) * ly)) ≤ 1 / 600000 := by
  have hp := Rat.mul_pos e1p e2p
  have m := Ln_mul e1p e2p
  have a1 := av_add_le (av_add_le h1 h2) m
  rw [show Ln e1 - z1 + (Ln e2 - z2) + (Ln (e1 * e2) - Ln e1 - Ln e2) = Ln (e1 * e2) - (z1 + z2) by grind] at a1
  have low : 1 / 8192 ≤ e1 * e2 := by
    refine Ln_low hp ?_
    have := Rat.le_trans (neg_le_av _) a1
    have : eta ≤ 1 / 1000000 := by decide +kernel
    grind
  have hE2 : av (E - e1 * e2) ≤ 1 / 8300000 * (e1 * e2) := by
    rw [av_of_nonneg (Rat.le_of_lt hp)] at hE
    have c1 : es ≤ 1 / 8350000 := by decide +kernel
    have c2 : ts ≤ 1 / 100000000000000 := by decide +kernel
    have c3 := Rat.mul_le_mul_of_nonneg_left c1 (Rat.le_of_lt hp)
    refine Rat.le_trans hE ?_
    generalize e1 * e2 = p at *
    generalize es = a at *
    generalize ts = b at *
    clear hE a1 m
    grind
  obtain ⟨Ep, n⟩ := Ln_nearer hp (by decide +kernel) hE2
  refine ⟨Ep, ?_⟩
  have a2 := av_mul_le' hu hy
  have a3 := av_add_le (av_add_le (av_add_le (av_add_le n a1) hz1) hz2) a2
  rw [show Ln E - Ln (e1 * e2) + (Ln (e1 * e2) - (z1 + z2)) + (z1 - s * lx) + (z2 - u * ly) + (u - (1 - s)) * ly = Ln E - (s * lx + (1 - s) * ly) by grind] at a3
  refine Rat.le_trans a3 ?_
  have c : u ≤ (1 - s) + 1 / 8300000 := by have := Rat.le_trans (le_av _) hu; grind
  have t : ts ≤ 1 / 1000000000000 := by decide +kernel
  have he : eta ≤ 1 / 1000000000000 := by decide +kernel
  clear a1 a2 a3 n m hE2 hE h1 h2 hz1 hz2 hu hy low hp
  generalize ts = b at *
  generalize eta = e at *
  grind
/-- The part of a letter: its logarithm lies on the straight line between those of both chances. -/
theorem faT_ln {s x y : Nat} (hs : Sh s) (hx : Cw x) (hy : Cw y) : Fnt single (faT s (faU s) x y) ∧ 0 < sv single (faT s (faU s) x y) ∧ av (Ln (sv single (faT s (faU s) x y)) - (sv single s * Ln (sv single x) + (1 - sv single s) * Ln (sv single y))) ≤ 1 / 600000 := by
  obtain ⟨_, hu⟩ := faU_ok hs
  obtain ⟨z1f, z1u, z1l, z1e⟩ := faZ_ap hs hx
  obtain ⟨z2f, z2u, z2l, z2e⟩ := faZ_ap hu hy
  obtain ⟨e1f, e1p, e1u, e1e⟩ := exF_ln z1f (Rat.le_trans (by decide +kernel) z1l) z1u
  obtain ⟨e2f, e2p, e2u, e2e⟩ := exF_ln z2f (Rat.le_trans (by decide +kernel) z2l) z2u
  obtain ⟨s0, s1, s2⟩ := hs
  obtain ⟨u0, u1, u2⟩ := hu
  obtain ⟨_, ue⟩ := ap_sub (k := .f32) (E := 1 / 8300000) (Ap.ex (k := .f32) (x := 1065353216) (fin_of_lt single (by rw [s_inf]; omega)) ss_1) (show Ap .f32 s (sv single s) 0 from Ap.self (k := .f32) s0) (A := 1) (av_le (by clear z1e z2e e1e e2e; generalize sv single s = a at *; grind) (by clear z1e z2e e1e e2e; generalize sv single s = a at *; grind)) (by decide +kernel) (by decide +kernel)
  have ue := ue.2
  rw [show fA .sub .f32 1065353216 s = faU s from rfl, show FloatKind.f32.format = single from rfl] at ue
  obtain ⟨hy0, hy1, ly1⟩ := hy
  obtain ⟨_, _, ly2⟩ := cw_val hy0 hy1
  have hly : av (Ln (sv single y)) ≤ 3 + 1 / 1000000 := by
    have he : eta ≤ 1 / 1000000 := by decide +kernel
    clear z1e z2e e1e e2e ue hy0 hy1
    generalize Ln (sv single y) = l at *
    exact av_le (by grind) (by grind)
  obtain ⟨w, h1, h2⟩ := mul_rnd s_hf e1f e2f
  obtain ⟨a1, a2⟩ := fA_of (op := .mul) (k := .f32) h1
  have e : faT s (faU s) x y = w := a2
  rw [e]
  have pb : av (sv single (exF (faZ s x)) * sv single (exF (faZ (faU s) y))) ≤ pv 1 ((2 : Nat) : Int) := by
    have := av_mul_le' (show av (sv single (exF (faZ s x))) ≤ 2 by rw [av_of_nonneg (Rat.le_of_lt e1p)]; exact e1u) (show av (sv single (exF (faZ (faU s) y))) ≤ 2 by rw [av_of_nonneg (Rat.le_of_lt e2p)]; exact e2u)
    exact Rat.le_trans this (by decide +kernel)
  have hb : Fnt single w := (bd_rnd (k := .f32) (e := 2) h2 pb).fnt (by decide)
  exact ⟨hb, part_err s1 s2 u1 u2 ue hly z1e z2e z1l z2l z1u z2u e1p e2p e1e e2e (err_s h2 hb)⟩

end Go.Proofs.Ytmocfnpbofeiiaa

/- How far rows are apart: near the logarithm of a sum. Plain: no program. -/
namespace Go.Proofs.Ytmocfnpbofeiiaa
set_option linter.unusedSimpArgs false
set_option linter.unusedVariables false
open Ieee

/-- Rows of n such words. -/
def Crw (xs : List Nat) : Prop := ∀ x ∈ xs, Cw x
theorem Crw.at {xs : List Nat} (h : Crw xs) {k : Nat} (hk : k < xs.length) : Cw (xs[k]?.getD 0) := by
  rw [List.getElem?_eq_getElem hk]; exact h _ (List.getElem_mem _)
/-- A letter's part, and the sum's logarithm. -/
def fE (xs ys : List Nat) (s : Nat) (i : Nat) : Rat := sv single (faT s (faU s) (xs[i]?.getD 0) (ys[i]?.getD 0))
noncomputable def fPh (xs ys : List Nat) (s : Nat) : Rat := Ln (smN (fE xs ys s) xs.length)
theorem faS_fl (s u : Nat) (xs ys : List Nat) : ∀ k, faS s u xs ys k = flS (fun i => faT s u (xs[i]?.getD 0) (ys[i]?.getD 0)) k
  | 0 => rfl
  | k + 1 => by simp only [faS, flS]; rw [faS_fl s u xs ys k]
theorem fE_ln {xs ys : List Nat} {s : Nat} (hs : Sh s) (hx : Crw xs) (hy : Crw ys) (hl : ys.length = xs.length) {i : Nat} (hi : i < xs.length) : 0 < fE xs ys s i ∧ av (Ln (fE xs ys s i) - (sv single s * Ln (sv single (xs[i]?.getD 0)) + (1 - sv single s) * Ln (sv single (ys[i]?.getD 0)))) ≤ 1 / 600000 := (faT_ln hs (hx.at hi) (hy.at (by omega))).2
/-- What lies in a row's sum. -/
def rsum (xs : List Nat) : Rat := smN (fun i => sv single (xs[i]?.getD 0)) xs.length
theorem cw_two {x : Nat} (h : Cw x) : 0 < sv single x := (cw_val h.1 h.2.1).1
/-- The sum's logarithm lies between -3 and a little above zero. -/
theorem fPh_in {xs ys : List Nat} {s : Nat} (hs : Sh s) (hx : Crw xs) (hy : Crw ys) (hl : ys.length = xs.length) (h1 : 1 ≤ xs.length) (sx : av (rsum xs - 1) ≤ 1 / 100000) (sy : av (rsum ys - 1) ≤ 1 / 100000) : fPh xs ys s ≤ 1 / 50000 ∧ -(301 / 100) ≤ fPh xs ys s ∧ 1 / 100 ≤ smN (fE xs ys s) xs.length ∧ smN (fE xs ys s) xs.length ≤ 2 := by
  have he : eta ≤ 1 / 1000000000000 := by decide +kernel
  have he0 : 0 ≤ eta := by decide +kernel
  have up : fPh xs ys s ≤ 1 / 50000 := by
    have h := lse (p := fE xs ys s) (q := fun i => sv single (xs[i]?.getD 0)) (r := fun i => sv single (ys[i]?.getD 0)) (n := xs.length) (l := sv single s) (c := 1 / 600000) h1 (fun i hi => (fE_ln hs hx hy hl hi).1) (fun i hi => cw_two (hx.at hi)) (fun i hi => cw_two (hy.at (by omega))) hs.2.1 hs.2.2 (fun i hi => by
      have := Rat.le_trans (le_av _) (fE_ln hs hx hy hl hi).2
      grind)
    have a := Ln_le (x := rsum xs) (by have := Rat.le_trans (neg_le_av _) sx; grind)
    have b := Ln_le (x := rsum ys) (by have := Rat.le_trans (neg_le_av _) sy; grind)
    have a1 := Rat.le_trans (le_av _) sx
    have b1 := Rat.le_trans (le_av _) sy
    have h : fPh xs ys s ≤ sv single s * Ln (rsum xs) + (1 - sv single s) * Ln (rsum ys) + 1 / 600000 + 40 * eta := by
      unfold rsum fPh
      rw [hl]
      exact h
    have c1 := Rat.mul_le_mul_of_nonneg_left (show Ln (rsum xs) ≤ 1 / 90000 by grind) hs.2.1
    have c2 := Rat.mul_le_mul_of_nonneg_left (show Ln (rsum ys) ≤ 1 / 90000 by grind) (show 0 ≤ 1 - sv single s by have := hs.2.2; grind)
    generalize fPh xs ys s = f at *
    generalize sv single s = t at *
    generalize Ln (rsum xs) = lx at *
    generalize Ln (rsum ys) = ly at *
    clear sx sy a b hs
    grind
  have p0 := fE_ln hs hx hy hl (i := 0) (by omega)
  have pos := smN_pos (f := fE xs ys s) (n := xs.length) h1 (fun i hi => (fE_ln hs hx hy hl hi).1)
  have first : fE xs ys s 0 ≤ smN (fE xs ys s) xs.length := by
    have := smN_mono (f := fE xs ys s) (n := xs.length) (fun i hi => Rat.le_of_lt (fE_ln hs hx hy hl hi).1) 1 h1
    simp only [smN] at this
    rwa [Rat.zero_add] at this
  have lo0 : -(3000002 / 1000000) ≤ Ln (fE xs ys s 0) := by
    have q := Rat.le_trans (neg_le_av _) p0.2
    have x1 := (hx.at (k := 0) (by omega)).2.2
    have y1 := (hy.at (k := 0) (by omega)).2.2
    have c1 := Rat.mul_le_mul_of_nonneg_left x1 hs.2.1
    have c2 := Rat.mul_le_mul_of_nonneg_left y1 (show 0 ≤ 1 - sv single s by have := hs.2.2; grind)
    generalize Ln (fE xs ys s 0) = f at *
    generalize sv single s = t at *
    clear p0 pos first up
    grind
  have lo : -(301 / 100) ≤ fPh xs ys s := by
    have := Ln_mono p0.1 first
    unfold fPh
    generalize Ln (fE xs ys s 0) = f at *
    generalize Ln (smN (fE xs ys s) xs.length) = g at *
    clear up p0 pos first
    grind
  refine ⟨up, lo, ?_, ?_⟩
  · by_cases hc : 1 / 100 ≤ smN (fE xs ys s) xs.length
    · exact hc
    · exfalso
      have h := Ln_mono pos (show smN (fE xs ys s) xs.length ≤ 1 / 100 by grind)
      have h2 : Ln (1 / 100) ≤ -4 := by
        have e := Ln_at (m := 128 / 100) (by decide +kernel) (by decide +kernel) (-7)
        rw [show (128 / 100 : Rat) * 2 ^ (-7 : Int) = 1 / 100 by decide +kernel] at e
        rw [e]
        decide +kernel
      unfold fPh at lo
      generalize Ln (smN (fE xs ys s) xs.length) = g at *
      generalize Ln (1 / 100) = k at *
      clear up p0 pos first lo0
      grind
  · by_cases hc : smN (fE xs ys s) xs.length ≤ 2
    · exact hc
    · exfalso
      have h := Ln_mono (x := 2) (by decide +kernel) (show (2 : Rat) ≤ smN (fE xs ys s) xs.length by grind)
      have h2 : 1 / 2 ≤ Ln 2 := by
        have e := Ln_at (m := 1) (by decide +kernel) (by decide +kernel) 1
        rw [show (1 : Rat) * 2 ^ (1 : Int) = 2 by decide +kernel] at e
        rw [e]
        decide +kernel
      unfold fPh at up
      generalize Ln (smN (fE xs ys s) xs.length) = g at *
      generalize Ln 2 = k at *
      clear lo p0 pos first lo0
      grind

end Go.Proofs.Ytmocfnpbofeiiaa

/- How far rows are apart: the float near the exact value; what the law asks of shares. Plain: no program. -/
namespace Go.Proofs.Ytmocfnpbofeiiaa
set_option linter.unusedSimpArgs false
set_option linter.unusedVariables false
open Ieee

theorem far_fin {L0 b f ph lc : Rat} (c1 : 6931471 / 10000000 ≤ lc) (c2 : lc ≤ 6931473 / 10000000) (h1 : av (f - (0 - L0 / lc)) ≤ 1 / 530000) (h2 : av (L0 - ph) ≤ b) (hb : b ≤ 1 / 2500000) : av (f * lc + ph) ≤ 1 / 500000 := by
  have e : L0 / lc * lc = L0 := Rat.div_mul_cancel (by grind)
  have k := av_mul_le' h1 (show av lc ≤ 6931473 / 10000000 by rw [av_of_nonneg (by grind)]; exact c2)
  have k2 := av_sub_le k h2
  rw [show (f - (0 - L0 / lc)) * lc - (L0 - ph) = f * lc + ph by grind] at k2
  refine Rat.le_trans k2 ?_
  grind
theorem farF_near {xs ys : List Nat} {s : Nat} (hs : Sh s) (hx : Crw xs) (hy : Crw ys) (hl : ys.length = xs.length) (h1 : 1 ≤ xs.length) (h3 : xs.length ≤ 3) (sx : av (rsum xs - 1) ≤ 1 / 100000) (sy : av (rsum ys - 1) ≤ 1 / 100000) : Fnt single (farF xs ys s) ∧ av (sv single (farF xs ys s) * lnC + fPh xs ys s) ≤ 1 / 500000 := by
  obtain ⟨p1, p2, p3, p4⟩ := fPh_in hs hx hy hl h1 sx sy
  have FL := flS_ap (w := fun i => faT s (faU s) (xs[i]?.getD 0) (ys[i]?.getD 0)) (n := xs.length) (by omega) (fun i hi => (faT_ln hs (hx.at hi) (hy.at (by omega))).1) (fun i hi => Rat.le_of_lt (fE_ln hs hx hy hl hi).1) (Rat.le_trans (by decide +kernel) p3) (Rat.le_trans p4 (by decide +kernel))
  have A := (FL xs.length (Nat.le_refl _)).1
  have hsome := (FL (xs.length - 1) (by omega)).2 (by omega)
  have hlt : flS (fun i => faT s (faU s) (xs[i]?.getD 0) (ys[i]?.getD 0)) xs.length < 4294967296 := by
    have := fA_lt32 hsome
    rw [show xs.length = (xs.length - 1) + 1 by omega]
    exact this
  rw [← faS_fl] at A hlt
  obtain ⟨S, hS⟩ : ∃ S, S = faS s (faU s) xs ys xs.length := ⟨_, rfl⟩
  have hT : smN (fun i => sv single (faT s (faU s) (xs[i]?.getD 0) (ys[i]?.getD 0))) xs.length = smN (fE xs ys s) xs.length := rfl
  rw [hT] at A
  rw [← hS] at A hlt
  have hAv := A.2
  rw [show FloatKind.f32.format = single from rfl] at hAv
  have hn : ((xs.length : Nat) : Rat) ≤ 3 := by
    have : ((xs.length : Nat) : Rat) ≤ ((3 : Nat) : Rat) := by exact_mod_cast h3
    exact this
  have hTp : 0 < smN (fE xs ys s) xs.length := by grind
  have hd : av (sv single S - smN (fE xs ys s) xs.length) ≤ 3 / 8000000 * smN (fE xs ys s) xs.length := by
    refine Rat.le_trans hAv ?_
    have := Rat.mul_le_mul_of_nonneg_right hn (show 0 ≤ smN (fE xs ys s) xs.length / 8000000 by grind)
    grind
  obtain ⟨Sp, Sl⟩ := Ln_nearer hTp (by decide +kernel) hd
  have hSw : 0 < S ∧ S < 2139095040 := by
    rcases nn_word hlt A.1 (Rat.le_of_lt Sp) with ⟨h0, _⟩ | h
    · rw [h0] at Sp; exact absurd Sp (by decide)
    · exact h
  have Sl2 : av (Ln (sv single S) - fPh xs ys s) ≤ 1 / 2500000 := Rat.le_trans Sl (by decide +kernel)
  have hB : av (Ln (sv single S)) ≤ 31 / 10 := by
    have a1 := Rat.le_trans (le_av _) Sl2
    have a2 := Rat.le_trans (neg_le_av _) Sl2
    generalize Ln (sv single S) = l at *
    generalize fPh xs ys s = g at *
    clear Sl Sl2 hd hAv hlt hSw
    exact av_le (by grind) (by grind)
  have k1 := lnF_ap (B := 31 / 10) (E := 1 / 2600000) hSw.1 hSw.2 hB (by decide +kernel) (by decide +kernel)
  have k2 := enB_ap (B := 31 / 10) (E := 1 / 800000) k1 hB (by decide +kernel) (by decide +kernel)
  have hq : av (0 - Ln (sv single S) / lnC) ≤ 5 := by
    rw [show (0 : Rat) - Ln (sv single S) / lnC = -(Ln (sv single S) / lnC) by grind, av_neg, Rat.div_def]
    exact Rat.le_trans (av_mul_le' hB (show av lnC⁻¹ ≤ 3 / 2 by decide +kernel)) (by decide +kernel)
  obtain ⟨_, k3⟩ := ap_sub (k := .f32) (E := 1 / 530000) zero_ap k2 (A := 5) hq (by decide +kernel) (by decide +kernel)
  have e : farF xs ys s = fA .sub .f32 0 (enB S) := by
    unfold farF
    rw [← hS]
    unfold faB
    rw [if_neg (by omega)]
  rw [e]
  refine ⟨k3.1, far_fin lnC_b.1 lnC_b.2 ?_ Sl2 Rat.le_refl⟩
  exact k3.2
/-- Between two shares. -/
theorem fPh_mid {xs ys : List Nat} {s t u : Nat} {l : Rat} (hs : Sh s) (ht : Sh t) (hu : Sh u) (hx : Crw xs) (hy : Crw ys) (hl : ys.length = xs.length) (h1 : 1 ≤ xs.length) (l0 : 0 ≤ l) (l1 : l ≤ 1) (hm : sv single s = l * sv single t + (1 - l) * sv single u) :
    fPh xs ys s ≤ l * fPh xs ys t + (1 - l) * fPh xs ys u + 1 / 299999 := by
  have h := lse (p := fE xs ys s) (q := fE xs ys t) (r := fE xs ys u) (n := xs.length) (l := l) (c := 2 / 600000) h1 (fun i hi => (fE_ln hs hx hy hl hi).1) (fun i hi => (fE_ln ht hx hy hl hi).1) (fun i hi => (fE_ln hu hx hy hl hi).1) l0 l1 (fun i hi => by
    have a := Rat.le_trans (le_av _) (fE_ln hs hx hy hl hi).2
    have b := Rat.mul_le_mul_of_nonneg_left (Rat.le_trans (neg_le_av _) (fE_ln ht hx hy hl hi).2) l0
    have c := Rat.mul_le_mul_of_nonneg_left (Rat.le_trans (neg_le_av _) (fE_ln hu hx hy hl hi).2) (show 0 ≤ 1 - l by grind)
    rw [hm] at a
    generalize Ln (fE xs ys s i) = e1 at *
    generalize Ln (fE xs ys t i) = e2 at *
    generalize Ln (fE xs ys u i) = e3 at *
    generalize Ln (sv single (xs[i]?.getD 0)) = a1 at *
    generalize Ln (sv single (ys[i]?.getD 0)) = a2 at *
    generalize sv single t = x at *
    generalize sv single u = y at *
    grind)
  refine Rat.le_trans h ?_
  have he : 40 * eta ≤ 1 / 299999 - 2 / 600000 := by decide +kernel
  unfold fPh
  generalize eta = e at *
  grind
/-- Shares that lie near. -/
theorem fPh_lip {xs ys : List Nat} {s t : Nat} (hs : Sh s) (ht : Sh t) (hx : Crw xs) (hy : Crw ys) (hl : ys.length = xs.length) (h1 : 1 ≤ xs.length) {d : Rat} (hd : av (sv single s - sv single t) ≤ d) : fPh xs ys s ≤ fPh xs ys t + d * (31 / 10) + 1 / 299999 := by
  have h := lse1 (p := fE xs ys s) (q := fE xs ys t) (n := xs.length) (c := d * (31 / 10) + 2 / 600000) h1 (fun i hi => (fE_ln hs hx hy hl hi).1) (fun i hi => (fE_ln ht hx hy hl hi).1) (fun i hi => by
    have a := Rat.le_trans (le_av _) (fE_ln hs hx hy hl hi).2
    have b := Rat.le_trans (neg_le_av _) (fE_ln ht hx hy hl hi).2
    have cx := hx.at hi
    have cy := hy.at (k := i) (by omega)
    have x1 := cx.2.2
    have y1 := cy.2.2
    have x2 := (cw_val cx.1 cx.2.1).2.2
    have y2 := (cw_val cy.1 cy.2.1).2.2
    have he : eta ≤ 1 / 1000000 := by decide +kernel
    have k := av_mul_le' hd (show av (Ln (sv single (xs[i]?.getD 0)) - Ln (sv single (ys[i]?.getD 0))) ≤ 31 / 10 by
      clear a b cx cy
      generalize Ln (sv single (xs[i]?.getD 0)) = a1 at *
      generalize Ln (sv single (ys[i]?.getD 0)) = a2 at *
      exact av_le (by grind) (by grind))
    have k2 := Rat.le_trans (le_av _) k
    clear cx cy x1 x2 y1 y2 k hd
    generalize Ln (fE xs ys s i) = e1 at *
    generalize Ln (fE xs ys t i) = e2 at *
    generalize Ln (sv single (xs[i]?.getD 0)) = a1 at *
    generalize Ln (sv single (ys[i]?.getD 0)) = a2 at *
    generalize sv single s = x at *
    generalize sv single t = y at *
    grind)
  refine Rat.le_trans h ?_
  have he : 40 * eta ≤ 1 / 299999 - 2 / 600000 := by decide +kernel
  unfold fPh
  generalize eta = e at *
  grind

end Go.Proofs.Ytmocfnpbofeiiaa

/- The search for the farthest share: it loses next to nothing. Plain: no program. -/
namespace Go.Proofs.Ytmocfnpbofeiiaa
set_option linter.unusedSimpArgs false
set_option linter.unusedVariables false
open Ieee

theorem ss_half2 : sv single 1056964608 = 1 / 2 := by rw [sv_of_le single (by rw [s_inf]; omega)]; exact rs_half
theorem three_ap : Ap .f32 1077936128 3 0 := Ap.ex (k := .f32) (fin_of_lt single (by rw [s_inf]; omega)) ss_3
/-- Where the two points lie. -/
theorem fb_vals {l h : Nat} (hl : Sh l) (hh : Sh h) : av (sv single (fA .add .f32 l (fbC l h)) - (2 * sv single l + sv single h) / 3) ≤ 1 / 4000000 ∧ av (sv single (fA .sub .f32 h (fbC l h)) - (sv single l + 2 * sv single h) / 3) ≤ 1 / 4000000 := by
  obtain ⟨fl, l0, l1⟩ := hl
  obtain ⟨fh, h0, h1⟩ := hh
  have al : Ap .f32 l (sv single l) 0 := Ap.self (k := .f32) fl
  have ah : Ap .f32 h (sv single h) 0 := Ap.self (k := .f32) fh
  generalize sv single l = x at *
  generalize sv single h = y at *
  obtain ⟨_, d⟩ := ap_sub (k := .f32) (E := 1 / 8300000) ah al (A := 1) (av_le (by grind) (by grind)) (by decide +kernel) (by decide +kernel)
  obtain ⟨_, c⟩ := ap_div (k := .f32) (E := 1 / 12000000) d three_ap (c := 3) (Q := 1 / 3) (by decide +kernel) (by decide +kernel) (av_le (by grind) (by grind)) (by decide +kernel) (by decide +kernel)
  obtain ⟨_, p⟩ := ap_add (k := .f32) (E := 1 / 4000000) al c (A := 1) (av_le (by grind) (by grind)) (by decide +kernel) (by decide +kernel)
  obtain ⟨_, q⟩ := ap_sub (k := .f32) (E := 1 / 4000000) ah c (A := 1) (av_le (by grind) (by grind)) (by decide +kernel) (by decide +kernel)
  refine ⟨?_, ?_⟩
  · have := p.2
    rw [show x + (y - x) / 3 = (2 * x + y) / 3 by grind] at this
    exact this
  · have := q.2
    rw [show y - (y - x) / 3 = (x + 2 * y) / 3 by grind] at this
    exact this
/-- What the law's rows are. -/
structure Two (xs ys : List Nat) : Prop where
  hx : Crw xs
  hy : Crw ys
  hl : ys.length = xs.length
  h1 : 1 ≤ xs.length
  h3 : xs.length ≤ 3
  sx : av (rsum xs - 1) ≤ 1 / 100000
  sy : av (rsum ys - 1) ≤ 1 / 100000
theorem Two.far {xs ys : List Nat} (T : Two xs ys) {s : Nat} (hs : Sh s) : Fnt single (farF xs ys s) ∧ -(1 / 500000) - fPh xs ys s ≤ sv single (farF xs ys s) * lnC ∧ sv single (farF xs ys s) * lnC ≤ 1 / 500000 - fPh xs ys s := by
  obtain ⟨a, b⟩ := farF_near hs T.hx T.hy T.hl T.h1 T.h3 T.sx T.sy
  have b1 := Rat.le_trans (le_av _) b
  have b2 := Rat.le_trans (neg_le_av _) b
  generalize sv single (farF xs ys s) * lnC = f at *
  generalize fPh xs ys s = g at *
  exact ⟨a, by grind, by grind⟩
/-- Two points compared by their floats. -/
theorem Two.cmp {xs ys : List Nat} (T : Two xs ys) {s t : Nat} (hs : Sh s) (ht : Sh t) (h : sv single (farF xs ys s) ≤ sv single (farF xs ys t)) : fPh xs ys t ≤ fPh xs ys s + 1 / 250000 := by
  obtain ⟨_, a, _⟩ := T.far hs
  obtain ⟨_, _, b⟩ := T.far ht
  have c := Rat.mul_le_mul_of_nonneg_right h (show 0 ≤ lnC by decide +kernel)
  generalize sv single (farF xs ys s) * lnC = f at *
  generalize sv single (farF xs ys t) * lnC = g at *
  grind
/-- A point between a better one and one that is not better, nearly, loses next to nothing. -/
theorem Two.gain {xs ys : List Nat} (T : Two xs ys) {t a b : Nat} {l : Rat} (ht : Sh t) (ha : Sh a) (hb : Sh b) (l0 : 44 / 100 ≤ l) (l1 : l ≤ 1) (hm : sv single a = l * sv single t + (1 - l) * sv single b) (h : fPh xs ys b ≤ fPh xs ys a + 1 / 250000) : fPh xs ys a ≤ fPh xs ys t + 13 / 1000000 := by
  have k := fPh_mid (l := l) ha ht hb T.hx T.hy T.hl T.h1 (by grind) l1 hm
  have k2 := Rat.mul_le_mul_of_nonneg_left h (show 0 ≤ 1 - l by grind)
  generalize fPh xs ys a = fa at *
  generalize fPh xs ys b = fb at *
  generalize fPh xs ys t = ft at *
  clear hm h
  by_cases hc : fa ≤ ft + 13 / 1000000
  · exact hc
  · have := Rat.mul_le_mul_of_nonneg_right l0 (show 0 ≤ fa - ft - 13 / 1000000 by grind)
    grind
theorem between_left {t a b : Rat} (h1 : t < a) (h2 : a < b) (h3 : 44 / 100 * (b - t) ≤ b - a) : ∃ l : Rat, 44 / 100 ≤ l ∧ l ≤ 1 ∧ a = l * t + (1 - l) * b := by
  have hb : 0 < b - t := by grind
  refine ⟨(b - a) / (b - t), ?_, ?_, ?_⟩
  · obtain ⟨q, hq⟩ : ∃ q, q = (b - a) / (b - t) := ⟨_, rfl⟩
    have e : q * (b - t) = b - a := by rw [hq]; exact Rat.div_mul_cancel (by grind)
    rw [← hq]
    by_cases hc : 44 / 100 ≤ q
    · exact hc
    · have := Rat.mul_lt_mul_of_pos_right (show q < 44 / 100 by grind) hb
      grind
  · obtain ⟨q, hq⟩ : ∃ q, q = (b - a) / (b - t) := ⟨_, rfl⟩
    have e : q * (b - t) = b - a := by rw [hq]; exact Rat.div_mul_cancel (by grind)
    rw [← hq]
    by_cases hc : q ≤ 1
    · exact hc
    · have := Rat.mul_lt_mul_of_pos_right (show 1 < q by grind) hb
      grind
  · obtain ⟨q, hq⟩ : ∃ q, q = (b - a) / (b - t) := ⟨_, rfl⟩
    have e : q * (b - t) = b - a := by rw [hq]; exact Rat.div_mul_cancel (by grind)
    rw [← hq]
    grind
theorem between_right {t a b : Rat} (h1 : a < t) (h2 : b < a) (h3 : 44 / 100 * (t - b) ≤ a - b) : ∃ l : Rat, 44 / 100 ≤ l ∧ l ≤ 1 ∧ a = l * t + (1 - l) * b := by
  obtain ⟨l, l0, l1, h⟩ := between_left (t := -t) (a := -a) (b := -b) (by grind) (by grind) (by grind)
  exact ⟨l, l0, l1, by grind⟩
/-- How the search stands behind n rounds: a point t is as good as the half, nearly, and lies between the bounds, or next to both. -/
def Stand (xs ys : List Nat) (n : Nat) : Prop := ∃ t, Sh t ∧ fPh xs ys t ≤ fPh xs ys 1056964608 + (n : Rat) * (13 / 1000000) ∧
  ((sv single (fbN xs ys n).1 ≤ sv single t ∧ sv single t ≤ sv single (fbN xs ys n).2 ∧ sv single (fbN xs ys n).2 - sv single (fbN xs ys n).1 ≤ (7 / 10) ^ n) ∨
   (av (sv single (fbN xs ys n).1 - sv single t) ≤ 1 / 100000 + (n : Rat) * (1 / 4000000) ∧ av (sv single (fbN xs ys n).2 - sv single t) ≤ 1 / 100000 + (n : Rat) * (1 / 4000000)))
theorem near_step {l h t m w : Rat} (h1 : av (l - t) ≤ w) (h2 : av (h - t) ≤ w) (hm : av (m - (2 * l + h) / 3) ≤ 1 / 4000000) : av (m - t) ≤ w + 1 / 4000000 := by
  have a1 := Rat.le_trans (le_av _) h1
  have a2 := Rat.le_trans (neg_le_av _) h1
  have b1 := Rat.le_trans (le_av _) h2
  have b2 := Rat.le_trans (neg_le_av _) h2
  have c1 := Rat.le_trans (le_av _) hm
  have c2 := Rat.le_trans (neg_le_av _) hm
  exact av_le (by grind) (by grind)
theorem Two.round {xs ys : List Nat} (T : Two xs ys) (n : Nat) (hn : Stand xs ys n) : Stand xs ys (n + 1) := by
  obtain ⟨t, ht, hp, hw⟩ := hn
  obtain ⟨sl, sh⟩ := fbN_sh xs ys n
  obtain ⟨_, _, _, _, s1, s2⟩ := fb_step sl sh
  obtain ⟨v1, v2⟩ := fb_vals sl sh
  have hstep : fbN xs ys (n + 1) = if FloatKind.f32.format.order (farF xs ys (fA .add .f32 (fbN xs ys n).1 (fbC (fbN xs ys n).1 (fbN xs ys n).2))) (farF xs ys (fA .sub .f32 (fbN xs ys n).2 (fbC (fbN xs ys n).1 (fbN xs ys n).2))) = some .lt
    then (fA .add .f32 (fbN xs ys n).1 (fbC (fbN xs ys n).1 (fbN xs ys n).2), (fbN xs ys n).2) else ((fbN xs ys n).1, fA .sub .f32 (fbN xs ys n).2 (fbC (fbN xs ys n).1 (fbN xs ys n).2)) := rfl
  generalize (fbN xs ys n).1 = l at *
  generalize (fbN xs ys n).2 = h at *
  generalize fA .add .f32 l (fbC l h) = m1 at *
  generalize fA .sub .f32 h (fbC l h) = m2 at *
  unfold Stand
  rw [hstep]
  have hnr : ((n + 1 : Nat) : Rat) = (n : Rat) + 1 := by rw [Rat.natCast_add]; rfl
  rw [hnr]
  have hn0 : (0 : Rat) ≤ (n : Rat) := by exact_mod_cast Nat.zero_le n
  generalize (n : Rat) = k at *
  obtain ⟨f1, _, _⟩ := T.far s1
  obtain ⟨f2, _, _⟩ := T.far s2
  obtain ⟨o1, o2, o3⟩ := order_fin f1 f2
  -- next to both
  have second : av (sv single l - sv single t) ≤ 1 / 100000 + k * (1 / 4000000) → av (sv single h - sv single t) ≤ 1 / 100000 + k * (1 / 4000000) → av (sv single l - sv single t) ≤ 1 / 100000 + (k + 1) * (1 / 4000000) ∧ av (sv single h - sv single t) ≤ 1 / 100000 + (k + 1) * (1 / 4000000) ∧ av (sv single m1 - sv single t) ≤ 1 / 100000 + (k + 1) * (1 / 4000000) ∧ av (sv single m2 - sv single t) ≤ 1 / 100000 + (k + 1) * (1 / 4000000) := by
    intro q1 q2
    have p1 := near_step q1 q2 v1
    have p2 := near_step (m := sv single m2) q2 q1 (by rw [show 2 * sv single h + sv single l = sv single l + 2 * sv single h by grind]; exact v2)
    exact ⟨Rat.le_trans q1 (by grind), Rat.le_trans q2 (by grind), Rat.le_trans p1 (by grind), Rat.le_trans p2 (by grind)⟩
  have hp' : fPh xs ys t ≤ fPh xs ys 1056964608 + (k + 1) * (13 / 1000000) := by
    generalize fPh xs ys t = a at *
    generalize fPh xs ys 1056964608 = b at *
    grind
  rw [Rat.pow_succ]
  generalize ((7 : Rat) / 10) ^ n = P at *
  have near : (av (sv single l - sv single t) ≤ 1 / 100000 + k * (1 / 4000000) ∧ av (sv single h - sv single t) ≤ 1 / 100000 + k * (1 / 4000000)) ∨ (sv single l ≤ sv single t ∧ sv single t ≤ sv single h ∧ 1 / 100000 < sv single h - sv single l ∧ sv single h - sv single l ≤ P) := by
    rcases hw with ⟨a, b, b'⟩ | hb
    · by_cases hc : 1 / 100000 < sv single h - sv single l
      · exact .inr ⟨a, b, hc, b'⟩
      · refine .inl ⟨av_le (by grind) (by grind), av_le (by grind) (by grind)⟩
    · exact .inl hb
  rcases near with ⟨q1, q2⟩ | ⟨q1, q2, q3, q4⟩
  · obtain ⟨r1, r2, r3, r4⟩ := second q1 q2
    split
    · exact ⟨t, ht, hp', .inr ⟨r3, r2⟩⟩
    · exact ⟨t, ht, hp', .inr ⟨r1, r4⟩⟩
  · clear second hw
    have c1 := Rat.le_trans (le_av _) v1
    have c2 := Rat.le_trans (neg_le_av _) v1
    have d1 := Rat.le_trans (le_av _) v2
    have d2 := Rat.le_trans (neg_le_av _) v2
    clear v1 v2
    have wid1 : sv single h - sv single m1 ≤ P * (7 / 10) := by
      clear o1 o2 o3 hp' hp
      grind
    have wid2 : sv single m2 - sv single l ≤ P * (7 / 10) := by
      clear o1 o2 o3 hp' hp
      grind
    split
    · rename_i ho
      have hlt := o1.1 ho
      by_cases hc : sv single m1 ≤ sv single t
      · exact ⟨t, ht, hp', .inl ⟨hc, q2, wid1⟩⟩
      · refine ⟨m1, s1, ?_, .inl ⟨Rat.le_refl, ?_, wid1⟩⟩
        · obtain ⟨l', l0, l1, e⟩ := between_left (t := sv single t) (a := sv single m1) (b := sv single m2) (by grind) (by grind) (by grind)
          have g := T.gain ht s1 s2 l0 l1 e (T.cmp s1 s2 (Rat.le_of_lt hlt))
          clear o1 o2 o3 hlt ho hp' e
          generalize fPh xs ys t = a at *
          generalize fPh xs ys m1 = b at *
          generalize fPh xs ys 1056964608 = c at *
          grind
        · clear o1 o2 o3 hlt ho hp' hp
          grind
    · rename_i ho
      have hge : sv single (farF xs ys m2) ≤ sv single (farF xs ys m1) := by
        by_cases hx : sv single (farF xs ys m2) ≤ sv single (farF xs ys m1)
        · exact hx
        · exact absurd (o1.2 (by grind)) ho
      by_cases hc : sv single t ≤ sv single m2
      · exact ⟨t, ht, hp', .inl ⟨q1, hc, wid2⟩⟩
      · refine ⟨m2, s2, ?_, .inl ⟨?_, Rat.le_refl, wid2⟩⟩
        · obtain ⟨l', l0, l1, e⟩ := between_right (t := sv single t) (a := sv single m2) (b := sv single m1) (by grind) (by grind) (by grind)
          have g := T.gain ht s2 s1 l0 l1 e (T.cmp s2 s1 hge)
          clear o1 o2 o3 hge ho hp' e
          generalize fPh xs ys t = a at *
          generalize fPh xs ys m2 = b at *
          generalize fPh xs ys 1056964608 = c at *
          grind
        · clear o1 o2 o3 hge ho hp' hp
          grind
theorem Two.start {xs ys : List Nat} : Stand xs ys 0 := by
  refine ⟨1056964608, ⟨fin_of_lt single (by rw [s_inf]; omega), by rw [ss_half2]; decide +kernel, by rw [ss_half2]; decide +kernel⟩, ?_, .inl ?_⟩
  · rw [show ((0 : Nat) : Rat) = 0 from rfl]
    generalize fPh xs ys 1056964608 = c
    grind
  · show sv single 0 ≤ _ ∧ _ ≤ sv single 1065353216 ∧ sv single 1065353216 - sv single 0 ≤ (7 / 10) ^ 0
    rw [ss_half2, ss_1, show sv single 0 = 0 from sv_rg0 (by decide)]
    decide +kernel
theorem Two.all {xs ys : List Nat} (T : Two xs ys) : ∀ n, Stand xs ys n
  | 0 => Two.start
  | n + 1 => T.round n (T.all n)
theorem sh_half : Sh 1056964608 := ⟨fin_of_lt single (by rw [s_inf]; omega), by rw [ss_half2]; decide +kernel, by rw [ss_half2]; decide +kernel⟩
/-- The share found is as far as the half, nearly. -/
theorem Two.found {xs ys : List Nat} (T : Two xs ys) : Sh (fbR xs ys) ∧ fPh xs ys (fbR xs ys) ≤ fPh xs ys 1056964608 + 63 / 100000 := by
  obtain ⟨t, ht, hp, hw⟩ := T.all 40
  obtain ⟨sl, sh⟩ := fbN_sh xs ys 40
  have sr : Sh (fbR xs ys) := (fb_share sl sh).2.2.2
  refine ⟨sr, ?_⟩
  have hmid : av (sv single (fbR xs ys) - (sv single (fbN xs ys 40).1 + sv single (fbN xs ys 40).2) / 2) ≤ 1 / 4000000 := by
    obtain ⟨fl, l0, l1⟩ := sl
    obtain ⟨fh, h0, h1⟩ := sh
    unfold fbR fbS
    have al : Ap .f32 (fbN xs ys 40).1 (sv single (fbN xs ys 40).1) 0 := Ap.self (k := .f32) fl
    have ah : Ap .f32 (fbN xs ys 40).2 (sv single (fbN xs ys 40).2) 0 := Ap.self (k := .f32) fh
    generalize (fbN xs ys 40).1 = l at *
    generalize (fbN xs ys 40).2 = h at *
    generalize sv single l = x at *
    generalize sv single h = y at *
    obtain ⟨_, d⟩ := ap_add (k := .f32) (E := 1 / 4000000) al ah (A := 2) (av_le (by grind) (by grind)) (by decide +kernel) (by decide +kernel)
    obtain ⟨_, c⟩ := ap_mul (k := .f32) (E := 1 / 4000000) (Ap.ex (k := .f32) (fin_of_lt single (by rw [s_inf]; omega)) ss_half2) d (A := 1 / 2) (B := 2) (by decide +kernel) (av_le (by grind) (by grind)) (by decide +kernel) (by decide +kernel)
    have := c.2
    rw [show 1 / 2 * (x + y) = (x + y) / 2 by grind] at this
    exact this
  have near : av (sv single (fbR xs ys) - sv single t) ≤ 1 / 40000 := by
    have m1 := Rat.le_trans (le_av _) hmid
    have m2 := Rat.le_trans (neg_le_av _) hmid
    rcases hw with ⟨a, b, c⟩ | ⟨a, b⟩
    · have c := Rat.le_trans c (show ((7 : Rat) / 10) ^ 40 ≤ 1 / 1000000 by decide +kernel)
      clear hp hmid sl sh
      generalize sv single (fbR xs ys) = r at *
      generalize sv single (fbN xs ys 40).1 = l at *
      generalize sv single (fbN xs ys 40).2 = h at *
      exact av_le (by grind) (by grind)
    · rw [show ((40 : Nat) : Rat) = 40 from rfl] at a b
      have a1 := Rat.le_trans (le_av _) a
      have a2 := Rat.le_trans (neg_le_av _) a
      have b1 := Rat.le_trans (le_av _) b
      have b2 := Rat.le_trans (neg_le_av _) b
      clear hp hmid sl sh a b
      generalize sv single (fbR xs ys) = r at *
      generalize sv single (fbN xs ys 40).1 = l at *
      generalize sv single (fbN xs ys 40).2 = h at *
      exact av_le (by grind) (by grind)
  have L := fPh_lip sr ht T.hx T.hy T.hl T.h1 near
  rw [show ((40 : Nat) : Rat) = 40 from rfl] at hp
  generalize fPh xs ys (fbR xs ys) = a at *
  generalize fPh xs ys t = b at *
  generalize fPh xs ys 1056964608 = c at *
  grind
/-- Farther than by halves, nearly. -/
theorem Two.farthest {xs ys : List Nat} (T : Two xs ys) : sv single (farF xs ys 1056964608) - 95 / 100000 ≤ sv single (farF xs ys (fbR xs ys)) := by
  obtain ⟨sr, hf⟩ := T.found
  obtain ⟨_, _, a⟩ := T.far sh_half
  obtain ⟨_, b, _⟩ := T.far sr
  obtain ⟨c1, c2⟩ := lnC_b
  generalize fPh xs ys (fbR xs ys) = p at *
  generalize fPh xs ys 1056964608 = q at *
  generalize sv single (farF xs ys 1056964608) = f at *
  generalize sv single (farF xs ys (fbR xs ys)) = g at *
  generalize lnC = c at *
  by_cases hc : f - 95 / 100000 ≤ g
  · exact hc
  · have := Rat.mul_le_mul_of_nonneg_right c1 (show 0 ≤ f - g - 95 / 100000 by grind)
    grind

end Go.Proofs.Ytmocfnpbofeiiaa
