/- Circles: tenths of decibels, plain. No program. -/
import Derived.Test.YtimhljcebeiofaaLgU
import Derived.Test.YtimhljcebeiofaaFloP
namespace Go.Proofs.Ytimhljcebeiofaa
set_option linter.unusedSimpArgs false
set_option linter.unusedVariables false
open Ieee

/-- Ten tenths by the natural logarithm of ten. -/
def tthC : Rat := sv double 4631308968768463603
def tthA (X : Nat) : Nat := fA .add .f64 (fA .mul .f64 (lnW X) 4631308968768463603) 4602678819172646912
theorem tthC_b : 43 ≤ tthC ∧ tthC ≤ 44 := by decide +kernel
theorem tthC_ap : Ap .f64 4631308968768463603 tthC 0 := Ap.self (fin_of_lt double (by rw [d_inf]; omega))
theorem half_ap : Ap .f64 4602678819172646912 (1 / 2) 0 := Ap.ex (fin_of_lt double (by rw [d_inf]; omega)) (by rw [show FloatKind.f64.format = double from rfl, sv_of_le double (by rw [d_inf]; omega)]; exact rv_1_2)
/-- The words of positive single numbers. -/
theorem pos_word {x : Nat} (hw : x < 4294967296) (hf : Fnt single x) (hs : 0 < sv single x) : 0 < x ∧ x < 2139095040 := by
  unfold Fnt at hf
  rw [s_inf] at hf
  unfold sv at hs
  have h0 := rv_nonneg single (rg single x)
  cases hg : sg single x
  · unfold sg at hg
    rw [s_sw] at hg
    unfold rg at hf
    rw [s_sw] at hf
    have h1 : ¬ x / 2147483648 % 2 = 1 := by simpa using hg
    refine ⟨?_, by omega⟩
    rcases Nat.eq_zero_or_pos x with rfl | h
    · exfalso
      have hz : rv single (rg single 0) = 0 := by
        rw [show rg single 0 = 0 from rfl, rv_zero]
      rw [hz] at hs
      have hg0 : sg single 0 = false := rfl
      rw [hg0] at hs
      simp only [Bool.false_eq_true, if_false] at hs
      exact absurd hs (by decide)
    · exact h
  · rw [hg] at hs
    simp only [if_true] at hs
    grind
set_option maxHeartbeats 1000000 in
theorem tth_int {x : Nat} (h0 : 0 < x) (hx : x < 2139095040) : ∃ n : Int, (floatBits .mul .f64 (lnW (up64 x)) 4631308968768463603).isSome = true ∧ (floatBits .add .f64 (fA .mul .f64 (lnW (up64 x)) 4631308968768463603) 4602678819172646912).isSome = true ∧ Fnt double (tthA (up64 x)) ∧ (-1000000000001 ≤ n ∧ n ≤ 1000000000000) ∧
    floatToIntVal .f64 (flW (tthA (up64 x))) .i64 = some n ∧ (n : Rat) ≤ tthC * Ln (sv single x) + 1 / 2 + 1 / 100000000 ∧ tthC * Ln (sv single x) + 1 / 2 < (n : Rat) + 1 + 1 / 100000000 := by
  obtain ⟨_, u1, u2⟩ := up64_pos h0 hx
  have hf : Fnt single x := fin_of_lt single (by rw [s_inf]; exact hx)
  obtain ⟨_, _, us⟩ := ap_up (Ap.self (k := .f32) hf)
  have hl := lnW_ap u1 (by omega)
  rw [us] at hl
  have hb := lnW_bd u1 (by omega)
  have p15 : pv 1 ((15 : Nat) : Int) = 32768 := by decide +kernel
  unfold Bd at hb
  rw [p15] at hb
  have hL : av (Ln (sv single x)) ≤ 40000 := by
    have h1 := hl.2
    have h2 := av_add (sv double (lnW (up64 x))) (-(sv double (lnW (up64 x)) - Ln (sv single x)))
    rw [av_neg, show sv double (lnW (up64 x)) + -(sv double (lnW (up64 x)) - Ln (sv single x)) = Ln (sv single x) by grind] at h2
    rw [show FloatKind.f64.format = double from rfl] at h1 hb
    generalize sv double (lnW (up64 x)) = s at *
    generalize Ln (sv single x) = l at *
    grind
  clear hb
  generalize Ln (sv single x) = L at *
  obtain ⟨a1, a2⟩ := ap_mul (E := 1 / 1000000000) hl tthC_ap (A := 40000) (B := 44) hL (by decide +kernel) (by decide +kernel) (by decide +kernel)
  have m1 := av_mul_le' hL (show av tthC ≤ 44 by decide +kernel)
  obtain ⟨b1, b2⟩ := ap_add (E := 1 / 100000000) a2 half_ap (A := 2000000) (by
    have := av_add (L * tthC) (1 / 2)
    have : av (1 / 2) = 1 / 2 := by decide +kernel
    grind) (by decide +kernel) (by decide +kernel)
  have hv := b2.val (A := 2000000) (by
    have := av_add (L * tthC) (1 / 2)
    have : av (1 / 2) = 1 / 2 := by decide +kernel
    grind)
  have hbd : av (sv double (tthA (up64 x))) ≤ 1000000000000 := Rat.le_trans hv (by decide +kernel)
  obtain ⟨n, n1, n2, n3⟩ := floor_int (x := tthA (up64 x)) b2.1 hbd
  have e1 := b2.2
  have hn : -1000000000001 ≤ n ∧ n ≤ 1000000000000 := by
    have k1 := Rat.le_trans (le_av _) hbd
    have k2 := Rat.le_trans (neg_le_av _) hbd
    clear hl a2 b2 e1 hv hbd n1
    generalize sv double (tthA (up64 x)) = t at *
    refine ⟨int_rat ?_, int_rat ?_⟩
    · rw [show ((-1000000000001 : Int) : Rat) = -1000000000001 from rfl]
      grind
    · rw [show ((1000000000000 : Int) : Rat) = 1000000000000 from rfl]
      grind
  refine ⟨n, a1, b1, b2.1, hn, n1, ?_, ?_⟩
  · have := Rat.le_trans (le_av _) e1
    unfold tthA at n2
    rw [show FloatKind.f64.format = double from rfl] at this
    clear hl a2 b2 e1 hv hbd n1
    generalize sv double (fA .add .f64 (fA .mul .f64 (lnW (up64 x)) 4631308968768463603) 4602678819172646912) = t at *
    grind
  · have := Rat.le_trans (neg_le_av _) e1
    unfold tthA at n3
    rw [show FloatKind.f64.format = double from rfl] at this
    clear hl a2 b2 e1 hv hbd n1
    generalize sv double (fA .add .f64 (fA .mul .f64 (lnW (up64 x)) 4631308968768463603) 4602678819172646912) = t at *
    grind
/-- The powers that the law asks for. -/
def xw (n : Nat) : Nat := fA .quo .f32 (floatOfInt .f32 (n : Int)) 1090519040
theorem xw_all : ∀ k : Nat, k < 200 → (floatBits .quo .f32 (floatOfInt .f32 ((k + 1 : Nat) : Int)) 1090519040).isSome = true ∧ 0 < xw (k + 1) ∧ xw (k + 1) < 2139095040 ∧ sv single (xw (k + 1)) = ((k + 1 : Nat) : Rat) / 8 := by decide +kernel
theorem xw_mul {a b : Nat} (ha : a < 200) (hb : b < 200) : (floatBits .mul .f32 (xw (a + 1)) (xw (b + 1))).isSome = true ∧ 0 < fA .mul .f32 (xw (a + 1)) (xw (b + 1)) ∧ fA .mul .f32 (xw (a + 1)) (xw (b + 1)) < 2139095040 ∧ sv single (fA .mul .f32 (xw (a + 1)) (xw (b + 1))) = ((a + 1 : Nat) : Rat) / 8 * (((b + 1 : Nat) : Rat) / 8) := by
  obtain ⟨_, a2, a3, a4⟩ := xw_all a ha
  obtain ⟨_, b2, b3, b4⟩ := xw_all b hb
  have fa : Fnt single (xw (a + 1)) := fin_of_lt single (by rw [s_inf]; exact a3)
  have fb : Fnt single (xw (b + 1)) := fin_of_lt single (by rw [s_inf]; exact b3)
  obtain ⟨w, h1, h2⟩ := mul_rnd s_hf fa fb
  rw [a4, b4] at h2
  obtain ⟨c1, c2⟩ := fA_of (op := .mul) (k := .f32) h1
  have hm : (a + 1) * (b + 1) ≤ 40000 := Nat.mul_le_mul (show a + 1 ≤ 200 by omega) (show b + 1 ≤ 200 by omega)
  obtain ⟨r, r1, r2⟩ := exact_rung single (m := (a + 1) * (b + 1)) (p := -6) (by rw [s_bin]; omega) (by decide)
  have hp : pv ((a + 1) * (b + 1)) (-6) = ((a + 1 : Nat) : Rat) / 8 * (((b + 1 : Nat) : Rat) / 8) := by
    unfold pv
    rw [Rat.natCast_mul, show (2 : Rat) ^ (-6 : Int) = 1 / 64 by decide +kernel]
    grind
  have hpos : 0 < ((a + 1 : Nat) : Rat) / 8 * (((b + 1 : Nat) : Rat) / 8) := by
    have ha0 : (0 : Rat) < ((a + 1 : Nat) : Rat) := by exact_mod_cast Nat.succ_pos a
    have hb0 : (0 : Rat) < ((b + 1 : Nat) : Rat) := by exact_mod_cast Nat.succ_pos b
    exact Rat.mul_pos (by grind) (by grind)
  have hri : r < single.infRung := by
    have h3 : (-6 - single.leastPlace).toNat + 2 ≤ 150 := by decide
    have h4 : r < 151 * single.binade := (Nat.div_lt_iff_lt_mul (binade_pos _)).1 (by omega)
    rw [s_bin] at h4
    rw [s_inf]; omega
  obtain ⟨f1, f2⟩ := rnd_exact h2 (r := r) (by rw [r1, hp, av_of_nonneg (Rat.le_of_lt hpos)]) hri
  rw [c2]
  have hwf := floatBits_wf (op := .mul) (k := .f32) h1
  have hw32 : w < 4294967296 := by simpa [Lit.wf] using hwf
  obtain ⟨p1, p2⟩ := pos_word hw32 f1 (by rw [f2]; exact hpos)
  exact ⟨c1, p1, p2, f2⟩
/-- Tenths of a product are those of both, but for one. -/
theorem tth_law {a b : Nat} (ha : a < 200) (hb : b < 200) {m n o : Int} (hm : floatToIntVal .f64 (flW (tthA (up64 (xw (a + 1))))) .i64 = some m) (hn : floatToIntVal .f64 (flW (tthA (up64 (xw (b + 1))))) .i64 = some n) (ho : floatToIntVal .f64 (flW (tthA (up64 (fA .mul .f32 (xw (a + 1)) (xw (b + 1)))))) .i64 = some o) : m + n - o ≤ 1 ∧ o - m - n ≤ 1 := by
  obtain ⟨_, a2, a3, a4⟩ := xw_all a ha
  obtain ⟨_, b2, b3, b4⟩ := xw_all b hb
  obtain ⟨_, c2, c3, c4⟩ := xw_mul ha hb
  obtain ⟨m', _, _, _, _, m1, m2, m3⟩ := tth_int a2 a3
  obtain ⟨n', _, _, _, _, n1, n2, n3⟩ := tth_int b2 b3
  obtain ⟨o', _, _, _, _, o1, o2, o3⟩ := tth_int c2 c3
  rw [hm] at m1; cases m1
  rw [hn] at n1; cases n1
  rw [ho] at o1; cases o1
  rw [a4] at m2 m3
  rw [b4] at n2 n3
  rw [c4] at o2 o3
  have ha0 : (0 : Rat) < ((a + 1 : Nat) : Rat) := by exact_mod_cast Nat.succ_pos a
  have hb0 : (0 : Rat) < ((b + 1 : Nat) : Rat) := by exact_mod_cast Nat.succ_pos b
  have L := Ln_mul (x := ((a + 1 : Nat) : Rat) / 8) (y := ((b + 1 : Nat) : Rat) / 8) (by grind) (by grind)
  generalize Ln (((a + 1 : Nat) : Rat) / 8 * (((b + 1 : Nat) : Rat) / 8)) = lo at *
  generalize Ln (((a + 1 : Nat) : Rat) / 8) = la at *
  generalize Ln (((b + 1 : Nat) : Rat) / 8) = lb at *
  have k := av_mul_le' (show av tthC ≤ 44 by decide +kernel) L
  have k1 := Rat.le_trans (le_av _) k
  have k2 := Rat.le_trans (neg_le_av _) k
  have e : eta = 1 / 100000000000000000 := rfl
  rw [e] at k1 k2
  generalize tthC = c at *
  constructor
  · refine int_rat ?_
    rw [Rat.intCast_sub, Rat.intCast_add, show ((1 : Int) : Rat) = 1 from rfl]
    grind
  · refine int_rat ?_
    rw [Rat.intCast_sub, Rat.intCast_sub, show ((1 : Int) : Rat) = 1 from rfl]
    grind
theorem tth_one : floatToIntVal .f64 (flW (tthA (up64 1065353216))) .i64 = some 0 := by decide +kernel

end Go.Proofs.Ytimhljcebeiofaa
