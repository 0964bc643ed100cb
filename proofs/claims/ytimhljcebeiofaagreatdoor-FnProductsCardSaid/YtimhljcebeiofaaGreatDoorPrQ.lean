/- Products of whole complex numbers: what the law compares. Plain. -/
import Derived.Test.YtimhljcebeiofaaGreatDoorPrD
import Derived.Test.YtimhljcebeiofaaGreatDoorSqr
namespace Go.Proofs.YtimhljcebeiofaaGreatDoor
set_option linter.unusedSimpArgs false
set_option linter.unusedVariables false
open Go.RowKit
open Ieee
theorem fi_int0 : ∀ x : Nat, x < 401 → floatToIntVal .f32 (fi ((x : Int) - 200)) .i64 = some ((x : Int) - 200) := by decide +kernel
theorem fi_int {p : Int} (h : p.natAbs ≤ 200) : floatToIntVal .f32 (fi p) .i64 = some p := by
  have := fi_int0 (p + 200).toNat (by omega)
  rwa [show (((p + 200).toNat : Nat) : Int) - 200 = p by omega] at this
theorem fi_lt0 : ∀ x : Nat, x < 401 → fi ((x : Int) - 200) < 4294967296 := by decide +kernel
theorem fi_lt {p : Int} (h : p.natAbs ≤ 200) : fi p < 4294967296 := by
  have := fi_lt0 (p + 200).toNat (by omega)
  rwa [show (((p + 200).toNat : Nat) : Int) - 200 = p by omega] at this
theorem fi_zero0 : ∀ x : Nat, x < 401 → (FloatKind.f32.format.order (fi ((x : Int) - 200)) 0 == some .eq) = decide (x = 200) := by decide +kernel
theorem fi_zero {p : Int} (h : p.natAbs ≤ 200) : (FloatKind.f32.format.order (fi p) 0 == some .eq) = decide (p = 0) := by
  have := fi_zero0 (p + 200).toNat (by omega)
  rw [show (((p + 200).toNat : Nat) : Int) - 200 = p by omega] at this
  rw [this]
  by_cases hp : p = 0
  · rw [decide_eq_true hp, decide_eq_true (by omega)]
  · rw [decide_eq_false hp, decide_eq_false (by omega)]
theorem zero_iw : Iw .f32 0 0 := ⟨by unfold Fnt; decide +kernel, by decide +kernel⟩
theorem two_iw : Iw .f32 1073741824 2 := ⟨by unfold Fnt; decide +kernel, by decide +kernel⟩
theorem foi_lt (n : Int) : floatOfInt .f32 n < 4294967296 := by
  have h : ∃ s q, floatOfInt .f32 n = single.word s (min q single.infRung) := by
    obtain ⟨q, h1, _⟩ := nearest_spec single s_hf (n < 0) n.natAbs 0
    exact ⟨_, q, h1⟩
  obtain ⟨s, q, h⟩ := h
  have h2 : min q single.infRung ≤ single.infRung := Nat.min_le_right _ _
  rw [h]
  rw [s_inf] at h2 ⊢
  unfold Format.word
  rw [s_sw]
  split <;> omega
theorem iw_pos {x : Nat} {z : Int} (hx : Iw .f64 x z) (h0 : 0 < z) (lx : x < 18446744073709551616) : sg double x = false ∧ rv double x = (z : Rat) := by
    have hz : (0 : Rat) < (z : Rat) := by exact_mod_cast h0
    have e : sv double x = (z : Rat) := hx.2
    have hs : sg double x = false := by
      cases hc : sg double x
      · rfl
      · unfold sv at e
        rw [hc, if_pos rfl] at e
        have := rv_nonneg double (rg double x)
        grind
    have hr : rg double x = x := by
      unfold sg at hs
      unfold rg
      rw [d_sw] at hs ⊢
      have := beq_eq_false_iff_ne.1 hs
      omega
    refine ⟨hs, ?_⟩
    unfold sv at e
    rw [hs, hr] at e
    simpa using e
/-- Words of one value that is not nothing are the same. -/
theorem iw_uniq {x y : Nat} {z : Int} (hx : Iw .f64 x z) (hy : Iw .f64 y z) (h0 : 0 < z) (lx : x < 18446744073709551616) (ly : y < 18446744073709551616) : x = y := by
  obtain ⟨_, a2⟩ := iw_pos hx h0 lx
  obtain ⟨_, b2⟩ := iw_pos hy h0 ly
  exact rv_inj double (a2.trans b2.symm)
theorem up64_lt {x : Nat} (hx : x < 4294967296) (h : (floatToFloatBits .f32 x .f64).isSome = true) : up64 x < 18446744073709551616 := by
  have := floatToFloatBits_wf (show (Lit.float .f32 x).wf = true by simp [Lit.wf]; omega) (up_run x h)
  simp [Lit.wf] at this
  omega
theorem dn32_lt {x : Nat} (hx : x < 18446744073709551616) (h : (floatToFloatBits .f64 x .f32).isSome = true) : dn32 x < 4294967296 := by
  have := floatToFloatBits_wf (show (Lit.float .f64 x).wf = true by simp [Lit.wf]; omega) (dn_run x h)
  simp [Lit.wf] at this
  omega
theorem sqD_lt {x : Nat} (h : (FloatKind.f64.format.sqrt x).isSome = true) (hf : Fnt double x) (hs : sg double x = false) : sqW x < 18446744073709551616 := by
  obtain ⟨w, v, s1, s2, v0, _⟩ := sqrt_rnd hf hs
  have e : sqW x = w := by unfold sqW; rw [show FloatKind.f64.format = double from rfl, s1]; rfl
  obtain ⟨s, q, h1, _, _, _⟩ := s2
  rw [e, h1]
  have hi : min q double.infRung ≤ double.infRung := Nat.min_le_right _ _
  rw [d_inf] at hi ⊢
  unfold Format.word
  rw [d_sw]
  split <;> omega
/-- A root's word, where its argument is a whole number. -/
theorem root_ok {x : Nat} {z : Int} (hx : Iw .f64 x z) (hs : sg double x = false) (h1 : 0 ≤ z) (h2 : z ≤ 1000000) : (FloatKind.f64.format.sqrt x).isSome = true ∧ (floatToFloatBits .f64 (sqW x) .f32).isSome = true := by
  obtain ⟨w, v, s1, s2, v0, s3⟩ := sqrt_rnd hx.1 hs
  have e : sqW x = w := by unfold sqW; rw [show FloatKind.f64.format = double from rfl, s1]; rfl
  have hz0 : (0 : Rat) ≤ (z : Rat) := by exact_mod_cast h1
  have hz1 : (z : Rat) ≤ 1000000 := Rat.intCast_le_intCast.2 h2
  have e2 : sv double x = (z : Rat) := hx.2
  rw [e2] at s3
  have hv : v ≤ 2048 := by
    by_cases hc : v ≤ 2048
    · exact hc
    · exfalso
      have c1 : (2048 : Rat) < v := by grind
      have k1 := Rat.mul_lt_mul_of_pos_left c1 (show (0 : Rat) < v by grind)
      have k2 : av (v * v - (z : Rat)) ≥ v * v - (z : Rat) := by unfold av; split <;> grind
      have k3 : (z : Rat) * (1 / 1000000000000000) ≤ 1 := by grind
      grind
  have hb : Bd .f64 11 w := bd_rnd (k := .f64) s2 (by rw [av_of_nonneg v0]; exact Rat.le_trans hv (by decide +kernel))
  obtain ⟨r, r1, _, _⟩ := conv_down hb (by decide)
  refine ⟨by rw [show FloatKind.f64.format = double from rfl, s1]; rfl, by rw [e, r1]; rfl⟩
/-- What the law asks about two whole complex numbers. -/
structure Pf (p q r s : Int) : Prop where
  m1 : mlOk (fi p) (fi q) (fi r) (fi s) = true
  m2 : mlOk (fi r) (fi s) (fi p) (fi q) = true
  w1 : mlR (fi p) (fi q) (fi r) (fi s) < 4294967296 ∧ mlI (fi p) (fi q) (fi r) (fi s) < 4294967296
  e1 : FloatKind.f32.format.order (mlR (fi p) (fi q) (fi r) (fi s)) (floatOfInt .f32 (p * r - q * s)) = some .eq ∧ FloatKind.f32.format.order (mlI (fi p) (fi q) (fi r) (fi s)) (floatOfInt .f32 (p * s + q * r)) = some .eq
  e2 : FloatKind.f32.format.order (mlR (fi r) (fi s) (fi p) (fi q)) (mlR (fi p) (fi q) (fi r) (fi s)) = some .eq ∧ FloatKind.f32.format.order (mlI (fi r) (fi s) (fi p) (fi q)) (mlI (fi p) (fi q) (fi r) (fi s)) = some .eq
  p1 : pwOk (fi p) (fi q) = true
  e3 : FloatKind.f32.format.order (dn32 (pwW (fi p) (fi q))) (floatOfInt .f32 (p * p + q * q)) = some .eq
  m3 : mlOk (fi p) (fi q) (fi p) (Op.negFloat .f32 (fi q)) = true
  e4 : FloatKind.f32.format.order (mlR (fi p) (fi q) (fi p) (Op.negFloat .f32 (fi q))) (floatOfInt .f32 (p * p + q * q)) = some .eq ∧ FloatKind.f32.format.order (mlI (fi p) (fi q) (fi p) (Op.negFloat .f32 (fi q))) 0 = some .eq
  l1 : (FloatKind.f64.format.sqrt (pwW (fi p) (fi q))).isSome = true ∧ (floatToFloatBits .f64 (sqW (pwW (fi p) (fi q))) .f32).isSome = true
  l2 : (floatToFloatBits .f32 (floatOfInt .f32 (p * p + q * q)) .f64).isSome = true ∧ up64 (floatOfInt .f32 (p * p + q * q)) = pwW (fi p) (fi q)
  l3 : dn32 (sqW (pwW (fi p) (fi q))) < 4294967296
  qt : r ≠ 0 ∨ s ≠ 0 → QtOk (mlR (fi p) (fi q) (fi r) (fi s)) (mlI (fi p) (fi q) (fi r) (fi s)) (fi r) (fi s) ∧ FloatKind.f32.format.order (qtR (mlR (fi p) (fi q) (fi r) (fi s)) (mlI (fi p) (fi q) (fi r) (fi s)) (fi r) (fi s)) (fi p) = some .eq ∧ FloatKind.f32.format.order (qtI (mlR (fi p) (fi q) (fi r) (fi s)) (mlI (fi p) (fi q) (fi r) (fi s)) (fi r) (fi s)) (fi q) = some .eq
  s1 : (floatBits .mul .f32 (fi p) 1073741824).isSome = true ∧ (floatBits .mul .f32 (fi q) 1073741824).isSome = true
  s2 : (floatBits .add .f32 (fi p) (fi p)).isSome = true ∧ (floatBits .add .f32 (fi q) (fi q)).isSome = true
  s3 : FloatKind.f32.format.order (fA .mul .f32 (fi p) 1073741824) (fA .add .f32 (fi p) (fi p)) = some .eq ∧ FloatKind.f32.format.order (fA .mul .f32 (fi q) 1073741824) (fA .add .f32 (fi q) (fi q)) = some .eq
theorem pf_all {p q r s : Int} (hp : p.natAbs ≤ 200) (hq : q.natAbs ≤ 200) (hr : r.natAbs ≤ 200) (hs : s.natAbs ≤ 200) : Pf p q r s := by
  have A := fi_iw (z := p) (by omega)
  have B := fi_iw (z := q) (by omega)
  have C := fi_iw (z := r) (by omega)
  have D := fi_iw (z := s) (by omega)
  have b1 := abs_mul hp hr
  have b2 := abs_mul hq hs
  have b3 := abs_mul hp hs
  have b4 := abs_mul hq hr
  have b5 := abs_mul hp hp
  have b6 := abs_mul hq hq
  have X := fi_iw (z := p * r - q * s) (by omega)
  have Y := fi_iw (z := p * s + q * r) (by omega)
  have Z := fi_iw (z := p * p + q * q) (by omega)
  obtain ⟨f1, f2, f3⟩ := ml_iw A B C D hp hq hr hs (by omega) (by omega) (by omega) (by omega)
  obtain ⟨g1, g2, g3⟩ := ml_iw C D A B hr hs hp hq (by omega) (by omega) (by rw [Int.mul_comm r p, Int.mul_comm s q]; omega) (by rw [Int.mul_comm r q, Int.mul_comm s p]; omega)
  rw [Int.mul_comm r p, Int.mul_comm s q] at g2
  rw [Int.mul_comm r q, Int.mul_comm s p, Int.add_comm (q * r)] at g3
  obtain ⟨h1, h2, h3⟩ := pw_iw A B hp hq (by omega) (by omega)
  have NB := iw_neg B
  have c1 : p * p - q * -q = p * p + q * q := by rw [Int.mul_neg]; omega
  have c2 : p * -q + q * p = 0 := by rw [Int.mul_neg, Int.mul_comm q p]; omega
  obtain ⟨k1, k2, k3⟩ := ml_iw A B A NB hp hq hp (show (-q).natAbs ≤ 200 by omega) (by omega) (by omega) (by rw [c1]; omega) (by rw [c2]; omega)
  rw [c1] at k2
  rw [c2] at k3
  have n1 : 0 ≤ p * p := by
    rcases Int.le_total 0 p with h | h
    · exact Int.mul_nonneg h h
    · exact Int.mul_nonneg_of_nonpos_of_nonpos h h
  have n2 : 0 ≤ q * q := by
    rcases Int.le_total 0 q with h | h
    · exact Int.mul_nonneg h h
    · exact Int.mul_nonneg_of_nonpos_of_nonpos h h
  obtain ⟨u1, u2⟩ := iw_up Z
  have zlt : fi (p * p + q * q) < 4294967296 := foi_lt _
  have hup : up64 (fi (p * p + q * q)) = pwW (fi p) (fi q) ∧ sg double (pwW (fi p) (fi q)) = false := by
    rcases Int.lt_or_eq_of_le (show 0 ≤ p * p + q * q by omega) with h0 | h0
    · have lw : pwW (fi p) (fi q) < 18446744073709551616 := by
        have e := h1
        unfold pwOk at e
        simp only [Bool.and_eq_true] at e
        have w := fA_wf e.1.2
        simp [Lit.wf] at w
        exact w
      exact ⟨iw_uniq u2 h2 h0 (up64_lt zlt u1) lw, (iw_pos h2 h0 lw).1⟩
    · have p0 : p = 0 := by
        have : p * p = 0 := by omega
        rcases Int.mul_eq_zero.1 this with e | e <;> exact e
      have q0 : q = 0 := by
        have : q * q = 0 := by omega
        rcases Int.mul_eq_zero.1 this with e | e <;> exact e
      subst p0
      subst q0
      decide +kernel
  have hrt := root_ok h2 hup.2 (by omega) (by omega)
  have hmul := fun (z : Int) (hz : z.natAbs ≤ 200) => iw_mul (fi_iw (z := z) (by omega)) two_iw (z := z * 2) rfl (by rw [bin32]; omega)
  have hadd := fun (z : Int) (hz : z.natAbs ≤ 200) => iw_add (fi_iw (z := z) (by omega)) (fi_iw (z := z) (by omega)) (z := z * 2) (by omega) (by rw [bin32]; omega)
  exact {
    m1 := f1
    m2 := g1
    w1 := by
      have e := f1
      unfold mlOk tmOk at e
      simp only [Bool.and_eq_true] at e
      obtain ⟨⟨⟨_, e5⟩, e6⟩, e7⟩ := e
      have wr := fA_wf e5.1.2
      have wi := fA_wf e5.2
      simp [Lit.wf] at wr wi
      exact ⟨dn32_lt wr e6, dn32_lt wi e7⟩
    e1 := ⟨iw_eq f2 X, iw_eq f3 Y⟩
    e2 := ⟨iw_eq g2 f2, iw_eq g3 f3⟩
    p1 := h1
    e3 := iw_eq h3 Z
    m3 := k1
    e4 := ⟨iw_eq k2 Z, iw_eq k3 zero_iw⟩
    l1 := hrt
    l2 := ⟨u1, hup.1⟩
    l3 := dn32_lt (sqD_lt hrt.1 h2.1 hup.2) hrt.2
    qt := fun h0 => by
      obtain ⟨q1, q2, q3⟩ := qt_iw f2 f3 C D h0 hp hq hr hs
      exact ⟨q1, iw_eq q2 A, iw_eq q3 B⟩
    s1 := ⟨(hmul p hp).1, (hmul q hq).1⟩
    s2 := ⟨(hadd p hp).1, (hadd q hq).1⟩
    s3 := ⟨iw_eq (hmul p hp).2 (hadd p hp).2, iw_eq (hmul q hq).2 (hadd q hq).2⟩ }

end Go.Proofs.YtimhljcebeiofaaGreatDoor
