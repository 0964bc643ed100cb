/- Products of single words near exact products, by relative errors. Plain: no program. -/
import Derived.Test.YtmocfnpbofeiiaaMSu32
import Derived.Test.YtmocfnpbofeiiaaMTeP
namespace Go.Proofs.Ytmocfnpbofeiiaa
set_option linter.unusedSimpArgs false
set_option linter.unusedVariables false
open Ieee

/-- A word near a chance that is zero or at least 1/100. -/
def Rr (x : Nat) (p : Rat) : Prop := Fnt single x ∧ (p = 0 ∨ 1 / 100 ≤ p) ∧ p ≤ 1 ∧ av (sv single x - p) ≤ p * (1 / 8000000)
/-- A word near a product of m chances. -/
def Rl (x : Nat) (v : Rat) (m : Nat) (d : Rat) : Prop := Fnt single x ∧ (v = 0 ∨ (1 / 100) ^ m ≤ v) ∧ v ≤ 100000 ∧ av (sv single x - v) ≤ d * v
theorem hpow_pos (m : Nat) : (0 : Rat) < (1 / 100) ^ m := by
  induction m with
  | zero => rw [Rat.pow_zero]; decide +kernel
  | succ m ih => rw [Rat.pow_succ]; exact Rat.mul_pos ih (by decide +kernel)
theorem hpow_le {m n : Nat} (h : m ≤ n) : ((1 : Rat) / 100) ^ n ≤ (1 / 100) ^ m := by
  induction n with
  | zero => obtain rfl : m = 0 := by omega
            exact Rat.le_refl
  | succ n ih =>
    by_cases hc : m = n + 1
    · subst hc; exact Rat.le_refl
    · have := ih (by omega)
      have := hpow_pos n
      rw [Rat.pow_succ]
      grind
theorem rl_err {x r v p d w : Rat} (hv : v = 0 ∨ 1 / 1000000000000000000000000000000 ≤ v * p ∨ p = 0) (v0 : 0 ≤ v) (p0 : 0 ≤ p) (p1 : p ≤ 1) (d0 : 0 ≤ d) (d1 : d ≤ 1 / 1000) (hx : av (x - v) ≤ d * v) (hr : av (r - p) ≤ p * (1 / 8000000)) (hw : av (w - x * r) ≤ av (x * r) * es + ts) (hz : x * r = 0 → w = 0) : av (w - v * p) ≤ (d + 1 / 4000000) * (v * p) := by
  have hz0 : av 0 = 0 := by decide +kernel
  by_cases h0 : v * p = 0
  · have : x * r = 0 := by
      rcases Rat.mul_eq_zero.1 h0 with h | h
      · rw [h, Rat.mul_zero] at hx
        have : x - v = 0 := by
          have a := Rat.le_trans (le_av _) hx
          have b := Rat.le_trans (neg_le_av _) hx
          grind
        have : x = 0 := by grind
        rw [this, Rat.zero_mul]
      · rw [h, Rat.zero_mul] at hr
        have : r - p = 0 := by
          have a := Rat.le_trans (le_av _) hr
          have b := Rat.le_trans (neg_le_av _) hr
          grind
        have : r = 0 := by grind
        rw [this, Rat.mul_zero]
    rw [hz this, h0, Rat.mul_zero, show (0 : Rat) - 0 = 0 by grind, hz0]
    exact Rat.le_refl
  · have hbig : 1 / 1000000000000000000000000000000 ≤ v * p := by
      rcases hv with h | h | h
      · rw [h, Rat.zero_mul] at h0; exact absurd rfl h0
      · exact h
      · rw [h, Rat.mul_zero] at h0; exact absurd rfl h0
    have c1 : es ≤ 1 / 8388608 := by decide +kernel
    have c2 : ts ≤ 1 / 10000000 * (1 / 10000000 * (1 / 1000000000000000000000000000000)) := by decide +kernel
    have e0 : 0 ≤ es := by decide +kernel
    have rb : av r ≤ p * (1 + 1 / 8000000) := by
      have := av_add_le hr (show av p ≤ p by rw [av_of_nonneg p0]; exact Rat.le_refl)
      rw [show r - p + p = r by grind] at this
      grind
    have m1 := av_mul_le' hx rb
    have m2 := av_mul_le' (show av v ≤ v by rw [av_of_nonneg v0]; exact Rat.le_refl) hr
    have m3 := av_add_le m1 m2
    rw [show (x - v) * r + v * (r - p) = x * r - v * p by grind] at m3
    have m4 := av_add_le m3 (show av (v * p) ≤ v * p by rw [av_of_nonneg (Rat.mul_nonneg v0 p0)]; exact Rat.le_refl)
    rw [show x * r - v * p + v * p = x * r by grind] at m4
    have m5 := Rat.mul_le_mul_of_nonneg_right m4 e0
    have m6 := av_add_le hw m3
    rw [show w - x * r + (x * r - v * p) = w - v * p by grind] at m6
    refine Rat.le_trans m6 ?_
    have q0 := Rat.mul_nonneg v0 p0
    have e1 : d * v * (p * (1 + 1 / 8000000)) + v * (p * (1 / 8000000)) = (v * p) * (d * (1 + 1 / 8000000) + 1 / 8000000) := by grind
    rw [e1] at m5 ⊢
    have e2 : ((v * p) * (d * (1 + 1 / 8000000) + 1 / 8000000) + v * p) * es ≤ ((v * p) * (d * (1 + 1 / 8000000) + 1 / 8000000) + v * p) * (1 / 8388608) := Rat.mul_le_mul_of_nonneg_left c1 (by
      have := Rat.mul_nonneg q0 (show 0 ≤ d * (1 + 1 / 8000000) + 1 / 8000000 by grind)
      grind)
    have m7 := Rat.le_trans m5 e2
    have k1 := Rat.mul_le_mul_of_nonneg_right d1 q0
    clear m1 m2 m3 m4 m5 m6 e1 e2 hw hx hr rb hz
    generalize av (x * r) * es = A at *
    generalize v * p = q at *
    generalize ts = t at *
    grind
theorem rl_mul {x r : Nat} {v p d : Rat} {m : Nat} (hx : Rl x v m d) (hr : Rr r p) (hm : m ≤ 13) (d0 : 0 ≤ d) (d1 : d ≤ 1 / 1000) : (floatBits .mul .f32 x r).isSome = true ∧ Rl (fA .mul .f32 x r) (v * p) (m + 1) (d + 1 / 4000000) := by
  obtain ⟨fx, hv, vb, ex⟩ := hx
  obtain ⟨fr, hp, pb, er⟩ := hr
  have v0 : 0 ≤ v := by
    rcases hv with h | h
    · rw [h]; exact Rat.le_refl
    · have := hpow_pos m; grind
  have p0 : 0 ≤ p := by
    rcases hp with h | h
    · rw [h]; exact Rat.le_refl
    · grind
  obtain ⟨w, h1, h2⟩ := mul_rnd s_hf fx fr
  obtain ⟨a1, a2⟩ := fA_of (op := .mul) (k := .f32) h1
  rw [a2]
  have pr : av (sv single x * sv single r) ≤ 1000000 := by
    have k1 := av_add_le ex (show av v ≤ v by rw [av_of_nonneg v0]; exact Rat.le_refl)
    rw [show sv single x - v + v = sv single x by grind] at k1
    have k2 := av_add_le er (show av p ≤ p by rw [av_of_nonneg p0]; exact Rat.le_refl)
    rw [show sv single r - p + p = sv single r by grind] at k2
    have k3 := Rat.mul_le_mul_of_nonneg_right d1 v0
    have k4 := av_mul_le' (show av (sv single x) ≤ 200000 by grind) (show av (sv single r) ≤ 2 by grind)
    exact Rat.le_trans k4 (by decide +kernel)
  have hw : Fnt single w := huge_bd (k := .f32) h2 (Rat.le_trans pr (by decide +kernel))
  have low : v * p = 0 ∨ (1 / 100) ^ (m + 1) ≤ v * p := by
    rcases hv with h | h
    · left; rw [h, Rat.zero_mul]
    · rcases hp with h' | h'
      · left; rw [h', Rat.mul_zero]
      · right
        rw [Rat.pow_succ]
        have k1 := Rat.mul_le_mul_of_nonneg_right h (show (0 : Rat) ≤ 1 / 100 by decide +kernel)
        have k2 := Rat.mul_le_mul_of_nonneg_left h' v0
        grind
  refine ⟨a1, hw, low, ?_, ?_⟩
  · have := Rat.mul_le_mul_of_nonneg_left pb v0
    grind
  · refine rl_err ?_ v0 p0 pb d0 d1 ex er (err_s h2 hw) (fun hz => sv_rg0 (rnd_zero h2 hz))
    rcases low with h | h
    · rcases Rat.mul_eq_zero.1 h with h | h
      · exact .inl h
      · exact .inr (.inr h)
    · refine .inr (.inl (Rat.le_trans ?_ h))
      exact Rat.le_trans (show 1 / 1000000000000000000000000000000 ≤ ((1 : Rat) / 100) ^ 14 by decide +kernel) (hpow_le (by omega))
/-- A number times a chance, c times. -/
def mulX (x p : Rat) : Nat → Rat
  | 0 => x
  | c + 1 => mulX x p c * p
theorem mulX_eq (x p : Rat) : ∀ c, mulX x p c = x * p ^ c
  | 0 => by rw [Rat.pow_zero, Rat.mul_one]; rfl
  | c + 1 => by rw [Rat.pow_succ, ← Rat.mul_assoc, ← mulX_eq x p c]; rfl
theorem mulN_rl {x r : Nat} {v p d : Rat} {m : Nat} (hx : Rl x v m d) (hr : Rr r p) (d0 : 0 ≤ d) : ∀ c, m + c ≤ 13 → d + ((c : Nat) : Rat) * (1 / 4000000) ≤ 1 / 1000 → Rl (mulN x r c) (mulX v p c) (m + c) (d + ((c : Nat) : Rat) * (1 / 4000000))
  | 0, _, _ => by
    rw [show ((0 : Nat) : Rat) = 0 from rfl, Rat.zero_mul, Rat.add_zero]; exact hx
  | c + 1, h, hd => by
    have hc : ((c + 1 : Nat) : Rat) = (c : Rat) + 1 := by rw [Rat.natCast_add]; rfl
    have c0 : (0 : Rat) ≤ (c : Rat) := by exact_mod_cast Nat.zero_le c
    rw [hc] at hd ⊢
    have ih := mulN_rl hx hr d0 c (by omega) (by grind)
    have := (rl_mul ih hr (by omega) (by grind) (by grind)).2
    rw [show d + (c : Rat) * (1 / 4000000) + 1 / 4000000 = d + ((c : Rat) + 1) * (1 / 4000000) by grind] at this
    exact this
/-- A type's exact chance. -/
def prX (ps : Nat → Rat) (cs : List Nat) (L : Nat) : Nat → Rat
  | 0 => ((wsP cs L : Nat) : Rat)
  | j + 1 => mulX (prX ps cs L j) (ps j) (cs[j]?.getD 0)
theorem foi_exact : ∀ k : Nat, k < 2000 → rg single (floatOfInt .f32 (k : Int)) < single.infRung ∧ sv single (floatOfInt .f32 (k : Int)) = (k : Rat) := by decide +kernel
theorem prP_rl {n L : Nat} {row cs : List Nat} {ps : Nat → Rat} (hT : Ty n L cs) (hn : n ≤ 12) (hW : 1 ≤ wsP cs L) (hW2 : wsP cs L < 2000) (hr : ∀ j, j < L → Rr (row[j]?.getD 0) (ps j)) : ∀ j, j ≤ L → Rl (prP row cs L j) (prX ps cs L j) (sumP cs j) (((sumP cs j : Nat) : Rat) * (1 / 4000000))
  | 0, _ => by
    obtain ⟨a, b⟩ := foi_exact _ hW2
    refine ⟨a, .inr ?_, ?_, ?_⟩
    · rw [show sumP cs 0 = 0 by simp [sumP], Rat.pow_zero]
      show (1 : Rat) ≤ ((wsP cs L : Nat) : Rat)
      exact_mod_cast hW
    · show ((wsP cs L : Nat) : Rat) ≤ 100000
      have : ((wsP cs L : Nat) : Rat) ≤ ((100000 : Nat) : Rat) := by exact_mod_cast (show wsP cs L ≤ 100000 by omega)
      exact this
    · show av (sv single (floatOfInt .f32 ((wsP cs L : Nat) : Int)) - ((wsP cs L : Nat) : Rat)) ≤ _
      rw [b, show sumP cs 0 = 0 by simp [sumP], show ((0 : Nat) : Rat) = 0 from rfl]
      rw [show ((wsP cs L : Nat) : Rat) - ((wsP cs L : Nat) : Rat) = 0 by grind]
      have : av 0 = 0 := by decide +kernel
      rw [this]; grind
  | j + 1, h => by
    have ih := prP_rl hT hn hW hW2 hr j (by omega)
    obtain ⟨h1, h2⟩ := hT.at (j := j) (by omega)
    have hs0 : (0 : Rat) ≤ ((sumP cs j : Nat) : Rat) := by exact_mod_cast Nat.zero_le _
    have hs12 : ((sumP cs (j + 1) : Nat) : Rat) ≤ 12 := by
      have : ((sumP cs (j + 1) : Nat) : Rat) ≤ ((12 : Nat) : Rat) := by exact_mod_cast (show sumP cs (j + 1) ≤ 12 by omega)
      exact this
    have e : ((sumP cs (j + 1) : Nat) : Rat) = ((sumP cs j : Nat) : Rat) + ((cs[j]?.getD 0 : Nat) : Rat) := by rw [h1, Rat.natCast_add]
    have := mulN_rl ih (hr j (by omega)) (by grind) (cs[j]?.getD 0) (by omega) (by grind)
    rw [show ((sumP cs j : Nat) : Rat) * (1 / 4000000) + ((cs[j]?.getD 0 : Nat) : Rat) * (1 / 4000000) = ((sumP cs (j + 1) : Nat) : Rat) * (1 / 4000000) by rw [e]; grind, ← h1] at this
    exact this

end Go.Proofs.Ytmocfnpbofeiiaa

/- The chances of all types add up to a power. Printed by wip/mk_mlt.py. Plain: no program. -/
namespace Go.Proofs.Ytmocfnpbofeiiaa
set_option linter.unusedSimpArgs false
set_option linter.unusedVariables false

/-- The exact chance of a type of 2 letters. -/
def chX2 (p q : Rat) (cs : List Nat) : Rat := ((wsP cs 2 : Nat) : Rat) * p ^ (cs[0]?.getD 0) * q ^ (cs[1]?.getD 0)
theorem mlt2_0 (p q : Rat) : smN (fun i => chX2 p q ((tysL 0 2)[i]?.getD [])) (tysL 0 2).length = (p + q) ^ 0 := by
  rw [show tysL 0 2 = [[0, 0]] by decide]
  have h0 : chX2 p q [0, 0] = 1 * p ^ 0 * q ^ 0 := by
    show ((wsP [0, 0] 2 : Nat) : Rat) * p ^ 0 * q ^ 0 = _
    rw [show ((wsP [0, 0] 2 : Nat) : Rat) = 1 by decide +kernel]
  show 0 + chX2 p q [0, 0] = _
  rw [h0]
  clear h0
  grind
theorem mlt2_1 (p q : Rat) : smN (fun i => chX2 p q ((tysL 1 2)[i]?.getD [])) (tysL 1 2).length = (p + q) ^ 1 := by
  rw [show tysL 1 2 = [[0, 1], [1, 0]] by decide]
  have h0 : chX2 p q [0, 1] = 1 * p ^ 0 * q ^ 1 := by
    show ((wsP [0, 1] 2 : Nat) : Rat) * p ^ 0 * q ^ 1 = _
    rw [show ((wsP [0, 1] 2 : Nat) : Rat) = 1 by decide +kernel]
  have h1 : chX2 p q [1, 0] = 1 * p ^ 1 * q ^ 0 := by
    show ((wsP [1, 0] 2 : Nat) : Rat) * p ^ 1 * q ^ 0 = _
    rw [show ((wsP [1, 0] 2 : Nat) : Rat) = 1 by decide +kernel]
  show 0 + chX2 p q [0, 1] + chX2 p q [1, 0] = _
  rw [h0, h1]
  clear h0 h1
  grind
theorem mlt2_2 (p q : Rat) : smN (fun i => chX2 p q ((tysL 2 2)[i]?.getD [])) (tysL 2 2).length = (p + q) ^ 2 := by
  rw [show tysL 2 2 = [[0, 2], [1, 1], [2, 0]] by decide]
  have h0 : chX2 p q [0, 2] = 1 * p ^ 0 * q ^ 2 := by
    show ((wsP [0, 2] 2 : Nat) : Rat) * p ^ 0 * q ^ 2 = _
    rw [show ((wsP [0, 2] 2 : Nat) : Rat) = 1 by decide +kernel]
  have h1 : chX2 p q [1, 1] = 2 * p ^ 1 * q ^ 1 := by
    show ((wsP [1, 1] 2 : Nat) : Rat) * p ^ 1 * q ^ 1 = _
    rw [show ((wsP [1, 1] 2 : Nat) : Rat) = 2 by decide +kernel]
  have h2 : chX2 p q [2, 0] = 1 * p ^ 2 * q ^ 0 := by
    show ((wsP [2, 0] 2 : Nat) : Rat) * p ^ 2 * q ^ 0 = _
    rw [show ((wsP [2, 0] 2 : Nat) : Rat) = 1 by decide +kernel]
  show 0 + chX2 p q [0, 2] + chX2 p q [1, 1] + chX2 p q [2, 0] = _
  rw [h0, h1, h2]
  clear h0 h1 h2
  grind
theorem mlt2_3 (p q : Rat) : smN (fun i => chX2 p q ((tysL 3 2)[i]?.getD [])) (tysL 3 2).length = (p + q) ^ 3 := by
  rw [show tysL 3 2 = [[0, 3], [1, 2], [2, 1], [3, 0]] by decide]
  have h0 : chX2 p q [0, 3] = 1 * p ^ 0 * q ^ 3 := by
    show ((wsP [0, 3] 2 : Nat) : Rat) * p ^ 0 * q ^ 3 = _
    rw [show ((wsP [0, 3] 2 : Nat) : Rat) = 1 by decide +kernel]
  have h1 : chX2 p q [1, 2] = 3 * p ^ 1 * q ^ 2 := by
    show ((wsP [1, 2] 2 : Nat) : Rat) * p ^ 1 * q ^ 2 = _
    rw [show ((wsP [1, 2] 2 : Nat) : Rat) = 3 by decide +kernel]
  have h2 : chX2 p q [2, 1] = 3 * p ^ 2 * q ^ 1 := by
    show ((wsP [2, 1] 2 : Nat) : Rat) * p ^ 2 * q ^ 1 = _
    rw [show ((wsP [2, 1] 2 : Nat) : Rat) = 3 by decide +kernel]
  have h3 : chX2 p q [3, 0] = 1 * p ^ 3 * q ^ 0 := by
    show ((wsP [3, 0] 2 : Nat) : Rat) * p ^ 3 * q ^ 0 = _
    rw [show ((wsP [3, 0] 2 : Nat) : Rat) = 1 by decide +kernel]
  show 0 + chX2 p q [0, 3] + chX2 p q [1, 2] + chX2 p q [2, 1] + chX2 p q [3, 0] = _
  rw [h0, h1, h2, h3]
  clear h0 h1 h2 h3
  grind
theorem mlt2_4 (p q : Rat) : smN (fun i => chX2 p q ((tysL 4 2)[i]?.getD [])) (tysL 4 2).length = (p + q) ^ 4 := by
  rw [show tysL 4 2 = [[0, 4], [1, 3], [2, 2], [3, 1], [4, 0]] by decide]
  have h0 : chX2 p q [0, 4] = 1 * p ^ 0 * q ^ 4 := by
    show ((wsP [0, 4] 2 : Nat) : Rat) * p ^ 0 * q ^ 4 = _
    rw [show ((wsP [0, 4] 2 : Nat) : Rat) = 1 by decide +kernel]
  have h1 : chX2 p q [1, 3] = 4 * p ^ 1 * q ^ 3 := by
    show ((wsP [1, 3] 2 : Nat) : Rat) * p ^ 1 * q ^ 3 = _
    rw [show ((wsP [1, 3] 2 : Nat) : Rat) = 4 by decide +kernel]
  have h2 : chX2 p q [2, 2] = 6 * p ^ 2 * q ^ 2 := by
    show ((wsP [2, 2] 2 : Nat) : Rat) * p ^ 2 * q ^ 2 = _
    rw [show ((wsP [2, 2] 2 : Nat) : Rat) = 6 by decide +kernel]
  have h3 : chX2 p q [3, 1] = 4 * p ^ 3 * q ^ 1 := by
    show ((wsP [3, 1] 2 : Nat) : Rat) * p ^ 3 * q ^ 1 = _
    rw [show ((wsP [3, 1] 2 : Nat) : Rat) = 4 by decide +kernel]
  have h4 : chX2 p q [4, 0] = 1 * p ^ 4 * q ^ 0 := by
    show ((wsP [4, 0] 2 : Nat) : Rat) * p ^ 4 * q ^ 0 = _
    rw [show ((wsP [4, 0] 2 : Nat) : Rat) = 1 by decide +kernel]
  show 0 + chX2 p q [0, 4] + chX2 p q [1, 3] + chX2 p q [2, 2] + chX2 p q [3, 1] + chX2 p q [4, 0] = _
  rw [h0, h1, h2, h3, h4]
  clear h0 h1 h2 h3 h4
  grind
theorem mlt2_5 (p q : Rat) : smN (fun i => chX2 p q ((tysL 5 2)[i]?.getD [])) (tysL 5 2).length = (p + q) ^ 5 := by
  rw [show tysL 5 2 = [[0, 5], [1, 4], [2, 3], [3, 2], [4, 1], [5, 0]] by decide]
  have h0 : chX2 p q [0, 5] = 1 * p ^ 0 * q ^ 5 := by
    show ((wsP [0, 5] 2 : Nat) : Rat) * p ^ 0 * q ^ 5 = _
    rw [show ((wsP [0, 5] 2 : Nat) : Rat) = 1 by decide +kernel]
  have h1 : chX2 p q [1, 4] = 5 * p ^ 1 * q ^ 4 := by
    show ((wsP [1, 4] 2 : Nat) : Rat) * p ^ 1 * q ^ 4 = _
    rw [show ((wsP [1, 4] 2 : Nat) : Rat) = 5 by decide +kernel]
  have h2 : chX2 p q [2, 3] = 10 * p ^ 2 * q ^ 3 := by
    show ((wsP [2, 3] 2 : Nat) : Rat) * p ^ 2 * q ^ 3 = _
    rw [show ((wsP [2, 3] 2 : Nat) : Rat) = 10 by decide +kernel]
  have h3 : chX2 p q [3, 2] = 10 * p ^ 3 * q ^ 2 := by
    show ((wsP [3, 2] 2 : Nat) : Rat) * p ^ 3 * q ^ 2 = _
    rw [show ((wsP [3, 2] 2 : Nat) : Rat) = 10 by decide +kernel]
  have h4 : chX2 p q [4, 1] = 5 * p ^ 4 * q ^ 1 := by
    show ((wsP [4, 1] 2 : Nat) : Rat) * p ^ 4 * q ^ 1 = _
    rw [show ((wsP [4, 1] 2 : Nat) : Rat) = 5 by decide +kernel]
  have h5 : chX2 p q [5, 0] = 1 * p ^ 5 * q ^ 0 := by
    show ((wsP [5, 0] 2 : Nat) : Rat) * p ^ 5 * q ^ 0 = _
    rw [show ((wsP [5, 0] 2 : Nat) : Rat) = 1 by decide +kernel]
  show 0 + chX2 p q [0, 5] + chX2 p q [1, 4] + chX2 p q [2, 3] + chX2 p q [3, 2] + chX2 p q [4, 1] + chX2 p q [5, 0] = _
  rw [h0, h1, h2, h3, h4, h5]
  clear h0 h1 h2 h3 h4 h5
  grind
theorem mlt2_6 (p q : Rat) : smN (fun i => chX2 p q ((tysL 6 2)[i]?.getD [])) (tysL 6 2).length = (p + q) ^ 6 := by
  rw [show tysL 6 2 = [[0, 6], [1, 5], [2, 4], [3, 3], [4, 2], [5, 1], [6, 0]] by decide]
  have h0 : chX2 p q [0, 6] = 1 * p ^ 0 * q ^ 6 := by
    show ((wsP [0, 6] 2 : Nat) : Rat) * p ^ 0 * q ^ 6 = _
    rw [show ((wsP [0, 6] 2 : Nat) : Rat) = 1 by decide +kernel]
  have h1 : chX2 p q [1, 5] = 6 * p ^ 1 * q ^ 5 := by
    show ((wsP [1, 5] 2 : Nat) : Rat) * p ^ 1 * q ^ 5 = _
    rw [show ((wsP [1, 5] 2 : Nat) : Rat) = 6 by decide +kernel]
  have h2 : chX2 p q [2, 4] = 15 * p ^ 2 * q ^ 4 := by
    show ((wsP [2, 4] 2 : Nat) : Rat) * p ^ 2 * q ^ 4 = _
    rw [show ((wsP [2, 4] 2 : Nat) : Rat) = 15 by decide +kernel]
  have h3 : chX2 p q [3, 3] = 20 * p ^ 3 * q ^ 3 := by
    show ((wsP [3, 3] 2 : Nat) : Rat) * p ^ 3 * q ^ 3 = _
    rw [show ((wsP [3, 3] 2 : Nat) : Rat) = 20 by decide +kernel]
  have h4 : chX2 p q [4, 2] = 15 * p ^ 4 * q ^ 2 := by
    show ((wsP [4, 2] 2 : Nat) : Rat) * p ^ 4 * q ^ 2 = _
    rw [show ((wsP [4, 2] 2 : Nat) : Rat) = 15 by decide +kernel]
  have h5 : chX2 p q [5, 1] = 6 * p ^ 5 * q ^ 1 := by
    show ((wsP [5, 1] 2 : Nat) : Rat) * p ^ 5 * q ^ 1 = _
    rw [show ((wsP [5, 1] 2 : Nat) : Rat) = 6 by decide +kernel]
  have h6 : chX2 p q [6, 0] = 1 * p ^ 6 * q ^ 0 := by
    show ((wsP [6, 0] 2 : Nat) : Rat) * p ^ 6 * q ^ 0 = _
    rw [show ((wsP [6, 0] 2 : Nat) : Rat) = 1 by decide +kernel]
  show 0 + chX2 p q [0, 6] + chX2 p q [1, 5] + chX2 p q [2, 4] + chX2 p q [3, 3] + chX2 p q [4, 2] + chX2 p q [5, 1] + chX2 p q [6, 0] = _
  rw [h0, h1, h2, h3, h4, h5, h6]
  clear h0 h1 h2 h3 h4 h5 h6
  grind
theorem mlt2_7 (p q : Rat) : smN (fun i => chX2 p q ((tysL 7 2)[i]?.getD [])) (tysL 7 2).length = (p + q) ^ 7 := by
  rw [show tysL 7 2 = [[0, 7], [1, 6], [2, 5], [3, 4], [4, 3], [5, 2], [6, 1], [7, 0]] by decide]
  have h0 : chX2 p q [0, 7] = 1 * p ^ 0 * q ^ 7 := by
    show ((wsP [0, 7] 2 : Nat) : Rat) * p ^ 0 * q ^ 7 = _
    rw [show ((wsP [0, 7] 2 : Nat) : Rat) = 1 by decide +kernel]
  have h1 : chX2 p q [1, 6] = 7 * p ^ 1 * q ^ 6 := by
    show ((wsP [1, 6] 2 : Nat) : Rat) * p ^ 1 * q ^ 6 = _
    rw [show ((wsP [1, 6] 2 : Nat) : Rat) = 7 by decide +kernel]
  have h2 : chX2 p q [2, 5] = 21 * p ^ 2 * q ^ 5 := by
    show ((wsP [2, 5] 2 : Nat) : Rat) * p ^ 2 * q ^ 5 = _
    rw [show ((wsP [2, 5] 2 : Nat) : Rat) = 21 by decide +kernel]
  have h3 : chX2 p q [3, 4] = 35 * p ^ 3 * q ^ 4 := by
    show ((wsP [3, 4] 2 : Nat) : Rat) * p ^ 3 * q ^ 4 = _
    rw [show ((wsP [3, 4] 2 : Nat) : Rat) = 35 by decide +kernel]
  have h4 : chX2 p q [4, 3] = 35 * p ^ 4 * q ^ 3 := by
    show ((wsP [4, 3] 2 : Nat) : Rat) * p ^ 4 * q ^ 3 = _
    rw [show ((wsP [4, 3] 2 : Nat) : Rat) = 35 by decide +kernel]
  have h5 : chX2 p q [5, 2] = 21 * p ^ 5 * q ^ 2 := by
    show ((wsP [5, 2] 2 : Nat) : Rat) * p ^ 5 * q ^ 2 = _
    rw [show ((wsP [5, 2] 2 : Nat) : Rat) = 21 by decide +kernel]
  have h6 : chX2 p q [6, 1] = 7 * p ^ 6 * q ^ 1 := by
    show ((wsP [6, 1] 2 : Nat) : Rat) * p ^ 6 * q ^ 1 = _
    rw [show ((wsP [6, 1] 2 : Nat) : Rat) = 7 by decide +kernel]
  have h7 : chX2 p q [7, 0] = 1 * p ^ 7 * q ^ 0 := by
    show ((wsP [7, 0] 2 : Nat) : Rat) * p ^ 7 * q ^ 0 = _
    rw [show ((wsP [7, 0] 2 : Nat) : Rat) = 1 by decide +kernel]
  show 0 + chX2 p q [0, 7] + chX2 p q [1, 6] + chX2 p q [2, 5] + chX2 p q [3, 4] + chX2 p q [4, 3] + chX2 p q [5, 2] + chX2 p q [6, 1] + chX2 p q [7, 0] = _
  rw [h0, h1, h2, h3, h4, h5, h6, h7]
  clear h0 h1 h2 h3 h4 h5 h6 h7
  grind
/-- The exact chance of a type of 3 letters. -/
def chX3 (p q r : Rat) (cs : List Nat) : Rat := ((wsP cs 3 : Nat) : Rat) * p ^ (cs[0]?.getD 0) * q ^ (cs[1]?.getD 0) * r ^ (cs[2]?.getD 0)
theorem mlt3_0 (p q r : Rat) : smN (fun i => chX3 p q r ((tysL 0 3)[i]?.getD [])) (tysL 0 3).length = (p + q + r) ^ 0 := by
  rw [show tysL 0 3 = [[0, 0, 0]] by decide]
  have h0 : chX3 p q r [0, 0, 0] = 1 * p ^ 0 * q ^ 0 * r ^ 0 := by
    show ((wsP [0, 0, 0] 3 : Nat) : Rat) * p ^ 0 * q ^ 0 * r ^ 0 = _
    rw [show ((wsP [0, 0, 0] 3 : Nat) : Rat) = 1 by decide +kernel]
  show 0 + chX3 p q r [0, 0, 0] = _
  rw [h0]
  clear h0
  grind
theorem mlt3_1 (p q r : Rat) : smN (fun i => chX3 p q r ((tysL 1 3)[i]?.getD [])) (tysL 1 3).length = (p + q + r) ^ 1 := by
  rw [show tysL 1 3 = [[0, 0, 1], [0, 1, 0], [1, 0, 0]] by decide]
  have h0 : chX3 p q r [0, 0, 1] = 1 * p ^ 0 * q ^ 0 * r ^ 1 := by
    show ((wsP [0, 0, 1] 3 : Nat) : Rat) * p ^ 0 * q ^ 0 * r ^ 1 = _
    rw [show ((wsP [0, 0, 1] 3 : Nat) : Rat) = 1 by decide +kernel]
  have h1 : chX3 p q r [0, 1, 0] = 1 * p ^ 0 * q ^ 1 * r ^ 0 := by
    show ((wsP [0, 1, 0] 3 : Nat) : Rat) * p ^ 0 * q ^ 1 * r ^ 0 = _
    rw [show ((wsP [0, 1, 0] 3 : Nat) : Rat) = 1 by decide +kernel]
  have h2 : chX3 p q r [1, 0, 0] = 1 * p ^ 1 * q ^ 0 * r ^ 0 := by
    show ((wsP [1, 0, 0] 3 : Nat) : Rat) * p ^ 1 * q ^ 0 * r ^ 0 = _
    rw [show ((wsP [1, 0, 0] 3 : Nat) : Rat) = 1 by decide +kernel]
  show 0 + chX3 p q r [0, 0, 1] + chX3 p q r [0, 1, 0] + chX3 p q r [1, 0, 0] = _
  rw [h0, h1, h2]
  clear h0 h1 h2
  grind
theorem mlt3_2 (p q r : Rat) : smN (fun i => chX3 p q r ((tysL 2 3)[i]?.getD [])) (tysL 2 3).length = (p + q + r) ^ 2 := by
  rw [show tysL 2 3 = [[0, 0, 2], [0, 1, 1], [0, 2, 0], [1, 0, 1], [1, 1, 0], [2, 0, 0]] by decide]
  have h0 : chX3 p q r [0, 0, 2] = 1 * p ^ 0 * q ^ 0 * r ^ 2 := by
    show ((wsP [0, 0, 2] 3 : Nat) : Rat) * p ^ 0 * q ^ 0 * r ^ 2 = _
    rw [show ((wsP [0, 0, 2] 3 : Nat) : Rat) = 1 by decide +kernel]
  have h1 : chX3 p q r [0, 1, 1] = 2 * p ^ 0 * q ^ 1 * r ^ 1 := by
    show ((wsP [0, 1, 1] 3 : Nat) : Rat) * p ^ 0 * q ^ 1 * r ^ 1 = _
    rw [show ((wsP [0, 1, 1] 3 : Nat) : Rat) = 2 by decide +kernel]
  have h2 : chX3 p q r [0, 2, 0] = 1 * p ^ 0 * q ^ 2 * r ^ 0 := by
    show ((wsP [0, 2, 0] 3 : Nat) : Rat) * p ^ 0 * q ^ 2 * r ^ 0 = _
    rw [show ((wsP [0, 2, 0] 3 : Nat) : Rat) = 1 by decide +kernel]
  have h3 : chX3 p q r [1, 0, 1] = 2 * p ^ 1 * q ^ 0 * r ^ 1 := by
    show ((wsP [1, 0, 1] 3 : Nat) : Rat) * p ^ 1 * q ^ 0 * r ^ 1 = _
    rw [show ((wsP [1, 0, 1] 3 : Nat) : Rat) = 2 by decide +kernel]
  have h4 : chX3 p q r [1, 1, 0] = 2 * p ^ 1 * q ^ 1 * r ^ 0 := by
    show ((wsP [1, 1, 0] 3 : Nat) : Rat) * p ^ 1 * q ^ 1 * r ^ 0 = _
    rw [show ((wsP [1, 1, 0] 3 : Nat) : Rat) = 2 by decide +kernel]
  have h5 : chX3 p q r [2, 0, 0] = 1 * p ^ 2 * q ^ 0 * r ^ 0 := by
    show ((wsP [2, 0, 0] 3 : Nat) : Rat) * p ^ 2 * q ^ 0 * r ^ 0 = _
    rw [show ((wsP [2, 0, 0] 3 : Nat) : Rat) = 1 by decide +kernel]
  show 0 + chX3 p q r [0, 0, 2] + chX3 p q r [0, 1, 1] + chX3 p q r [0, 2, 0] + chX3 p q r [1, 0, 1] + chX3 p q r [1, 1, 0] + chX3 p q r [2, 0, 0] = _
  rw [h0, h1, h2, h3, h4, h5]
  clear h0 h1 h2 h3 h4 h5
  grind
theorem mlt3_3 (p q r : Rat) : smN (fun i => chX3 p q r ((tysL 3 3)[i]?.getD [])) (tysL 3 3).length = (p + q + r) ^ 3 := by
  rw [show tysL 3 3 = [[0, 0, 3], [0, 1, 2], [0, 2, 1], [0, 3, 0], [1, 0, 2], [1, 1, 1], [1, 2, 0], [2, 0, 1], [2, 1, 0], [3, 0, 0]] by decide]
  have h0 : chX3 p q r [0, 0, 3] = 1 * p ^ 0 * q ^ 0 * r ^ 3 := by
    show ((wsP [0, 0, 3] 3 : Nat) : Rat) * p ^ 0 * q ^ 0 * r ^ 3 = _
    rw [show ((wsP [0, 0, 3] 3 : Nat) : Rat) = 1 by decide +kernel]
  have h1 : chX3 p q r [0, 1, 2] = 3 * p ^ 0 * q ^ 1 * r ^ 2 := by
    show ((wsP [0, 1, 2] 3 : Nat) : Rat) * p ^ 0 * q ^ 1 * r ^ 2 = _
    rw [show ((wsP [0, 1, 2] 3 : Nat) : Rat) = 3 by decide +kernel]
  have h2 : chX3 p q r [0, 2, 1] = 3 * p ^ 0 * q ^ 2 * r ^ 1 := by
    show ((wsP [0, 2, 1] 3 : Nat) : Rat) * p ^ 0 * q ^ 2 * r ^ 1 = _
    rw [show ((wsP [0, 2, 1] 3 : Nat) : Rat) = 3 by decide +kernel]
  have h3 : chX3 p q r [0, 3, 0] = 1 * p ^ 0 * q ^ 3 * r ^ 0 := by
    show ((wsP [0, 3, 0] 3 : Nat) : Rat) * p ^ 0 * q ^ 3 * r ^ 0 = _
    rw [show ((wsP [0, 3, 0] 3 : Nat) : Rat) = 1 by decide +kernel]
  have h4 : chX3 p q r [1, 0, 2] = 3 * p ^ 1 * q ^ 0 * r ^ 2 := by
    show ((wsP [1, 0, 2] 3 : Nat) : Rat) * p ^ 1 * q ^ 0 * r ^ 2 = _
    rw [show ((wsP [1, 0, 2] 3 : Nat) : Rat) = 3 by decide +kernel]
  have h5 : chX3 p q r [1, 1, 1] = 6 * p ^ 1 * q ^ 1 * r ^ 1 := by
    show ((wsP [1, 1, 1] 3 : Nat) : Rat) * p ^ 1 * q ^ 1 * r ^ 1 = _
    rw [show ((wsP [1, 1, 1] 3 : Nat) : Rat) = 6 by decide +kernel]
  have h6 : chX3 p q r [1, 2, 0] = 3 * p ^ 1 * q ^ 2 * r ^ 0 := by
    show ((wsP [1, 2, 0] 3 : Nat) : Rat) * p ^ 1 * q ^ 2 * r ^ 0 = _
    rw [show ((wsP [1, 2, 0] 3 : Nat) : Rat) = 3 by decide +kernel]
  have h7 : chX3 p q r [2, 0, 1] = 3 * p ^ 2 * q ^ 0 * r ^ 1 := by
    show ((wsP [2, 0, 1] 3 : Nat) : Rat) * p ^ 2 * q ^ 0 * r ^ 1 = _
    rw [show ((wsP [2, 0, 1] 3 : Nat) : Rat) = 3 by decide +kernel]
  have h8 : chX3 p q r [2, 1, 0] = 3 * p ^ 2 * q ^ 1 * r ^ 0 := by
    show ((wsP [2, 1, 0] 3 : Nat) : Rat) * p ^ 2 * q ^ 1 * r ^ 0 = _
    rw [show ((wsP [2, 1, 0] 3 : Nat) : Rat) = 3 by decide +kernel]
  have h9 : chX3 p q r [3, 0, 0] = 1 * p ^ 3 * q ^ 0 * r ^ 0 := by
    show ((wsP [3, 0, 0] 3 : Nat) : Rat) * p ^ 3 * q ^ 0 * r ^ 0 = _
    rw [show ((wsP [3, 0, 0] 3 : Nat) : Rat) = 1 by decide +kernel]
  show 0 + chX3 p q r [0, 0, 3] + chX3 p q r [0, 1, 2] + chX3 p q r [0, 2, 1] + chX3 p q r [0, 3, 0] + chX3 p q r [1, 0, 2] + chX3 p q r [1, 1, 1] + chX3 p q r [1, 2, 0] + chX3 p q r [2, 0, 1] + chX3 p q r [2, 1, 0] + chX3 p q r [3, 0, 0] = _
  rw [h0, h1, h2, h3, h4, h5, h6, h7, h8, h9]
  clear h0 h1 h2 h3 h4 h5 h6 h7 h8 h9
  grind
theorem mlt3_4 (p q r : Rat) : smN (fun i => chX3 p q r ((tysL 4 3)[i]?.getD [])) (tysL 4 3).length = (p + q + r) ^ 4 := by
  rw [show tysL 4 3 = [[0, 0, 4], [0, 1, 3], [0, 2, 2], [0, 3, 1], [0, 4, 0], [1, 0, 3], [1, 1, 2], [1, 2, 1], [1, 3, 0], [2, 0, 2], [2, 1, 1], [2, 2, 0], [3, 0, 1], [3, 1, 0], [4, 0, 0]] by decide]
  have h0 : chX3 p q r [0, 0, 4] = 1 * p ^ 0 * q ^ 0 * r ^ 4 := by
    show ((wsP [0, 0, 4] 3 : Nat) : Rat) * p ^ 0 * q ^ 0 * r ^ 4 = _
    rw [show ((wsP [0, 0, 4] 3 : Nat) : Rat) = 1 by decide +kernel]
  have h1 : chX3 p q r [0, 1, 3] = 4 * p ^ 0 * q ^ 1 * r ^ 3 := by
    show ((wsP [0, 1, 3] 3 : Nat) : Rat) * p ^ 0 * q ^ 1 * r ^ 3 = _
    rw [show ((wsP [0, 1, 3] 3 : Nat) : Rat) = 4 by decide +kernel]
  have h2 : chX3 p q r [0, 2, 2] = 6 * p ^ 0 * q ^ 2 * r ^ 2 := by
    show ((wsP [0, 2, 2] 3 : Nat) : Rat) * p ^ 0 * q ^ 2 * r ^ 2 = _
    rw [show ((wsP [0, 2, 2] 3 : Nat) : Rat) = 6 by decide +kernel]
  have h3 : chX3 p q r [0, 3, 1] = 4 * p ^ 0 * q ^ 3 * r ^ 1 := by
    show ((wsP [0, 3, 1] 3 : Nat) : Rat) * p ^ 0 * q ^ 3 * r ^ 1 = _
    rw [show ((wsP [0, 3, 1] 3 : Nat) : Rat) = 4 by decide +kernel]
  have h4 : chX3 p q r [0, 4, 0] = 1 * p ^ 0 * q ^ 4 * r ^ 0 := by
    show ((wsP [0, 4, 0] 3 : Nat) : Rat) * p ^ 0 * q ^ 4 * r ^ 0 = _
    rw [show ((wsP [0, 4, 0] 3 : Nat) : Rat) = 1 by decide +kernel]
  have h5 : chX3 p q r [1, 0, 3] = 4 * p ^ 1 * q ^ 0 * r ^ 3 := by
    show ((wsP [1, 0, 3] 3 : Nat) : Rat) * p ^ 1 * q ^ 0 * r ^ 3 = _
    rw [show ((wsP [1, 0, 3] 3 : Nat) : Rat) = 4 by decide +kernel]
  have h6 : chX3 p q r [1, 1, 2] = 12 * p ^ 1 * q ^ 1 * r ^ 2 := by
    show ((wsP [1, 1, 2] 3 : Nat) : Rat) * p ^ 1 * q ^ 1 * r ^ 2 = _
    rw [show ((wsP [1, 1, 2] 3 : Nat) : Rat) = 12 by decide +kernel]
  have h7 : chX3 p q r [1, 2, 1] = 12 * p ^ 1 * q ^ 2 * r ^ 1 := by
    show ((wsP [1, 2, 1] 3 : Nat) : Rat) * p ^ 1 * q ^ 2 * r ^ 1 = _
    rw [show ((wsP [1, 2, 1] 3 : Nat) : Rat) = 12 by decide +kernel]
  have h8 : chX3 p q r [1, 3, 0] = 4 * p ^ 1 * q ^ 3 * r ^ 0 := by
    show ((wsP [1, 3, 0] 3 : Nat) : Rat) * p ^ 1 * q ^ 3 * r ^ 0 = _
    rw [show ((wsP [1, 3, 0] 3 : Nat) : Rat) = 4 by decide +kernel]
  have h9 : chX3 p q r [2, 0, 2] = 6 * p ^ 2 * q ^ 0 * r ^ 2 := by
    show ((wsP [2, 0, 2] 3 : Nat) : Rat) * p ^ 2 * q ^ 0 * r ^ 2 = _
    rw [show ((wsP [2, 0, 2] 3 : Nat) : Rat) = 6 by decide +kernel]
  have h10 : chX3 p q r [2, 1, 1] = 12 * p ^ 2 * q ^ 1 * r ^ 1 := by
    show ((wsP [2, 1, 1] 3 : Nat) : Rat) * p ^ 2 * q ^ 1 * r ^ 1 = _
    rw [show ((wsP [2, 1, 1] 3 : Nat) : Rat) = 12 by decide +kernel]
  have h11 : chX3 p q r [2, 2, 0] = 6 * p ^ 2 * q ^ 2 * r ^ 0 := by
    show ((wsP [2, 2, 0] 3 : Nat) : Rat) * p ^ 2 * q ^ 2 * r ^ 0 = _
    rw [show ((wsP [2, 2, 0] 3 : Nat) : Rat) = 6 by decide +kernel]
  have h12 : chX3 p q r [3, 0, 1] = 4 * p ^ 3 * q ^ 0 * r ^ 1 := by
    show ((wsP [3, 0, 1] 3 : Nat) : Rat) * p ^ 3 * q ^ 0 * r ^ 1 = _
    rw [show ((wsP [3, 0, 1] 3 : Nat) : Rat) = 4 by decide +kernel]
  have h13 : chX3 p q r [3, 1, 0] = 4 * p ^ 3 * q ^ 1 * r ^ 0 := by
    show ((wsP [3, 1, 0] 3 : Nat) : Rat) * p ^ 3 * q ^ 1 * r ^ 0 = _
    rw [show ((wsP [3, 1, 0] 3 : Nat) : Rat) = 4 by decide +kernel]
  have h14 : chX3 p q r [4, 0, 0] = 1 * p ^ 4 * q ^ 0 * r ^ 0 := by
    show ((wsP [4, 0, 0] 3 : Nat) : Rat) * p ^ 4 * q ^ 0 * r ^ 0 = _
    rw [show ((wsP [4, 0, 0] 3 : Nat) : Rat) = 1 by decide +kernel]
  show 0 + chX3 p q r [0, 0, 4] + chX3 p q r [0, 1, 3] + chX3 p q r [0, 2, 2] + chX3 p q r [0, 3, 1] + chX3 p q r [0, 4, 0] + chX3 p q r [1, 0, 3] + chX3 p q r [1, 1, 2] + chX3 p q r [1, 2, 1] + chX3 p q r [1, 3, 0] + chX3 p q r [2, 0, 2] + chX3 p q r [2, 1, 1] + chX3 p q r [2, 2, 0] + chX3 p q r [3, 0, 1] + chX3 p q r [3, 1, 0] + chX3 p q r [4, 0, 0] = _
  rw [h0, h1, h2, h3, h4, h5, h6, h7, h8, h9, h10, h11, h12, h13, h14]
  clear h0 h1 h2 h3 h4 h5 h6 h7 h8 h9 h10 h11 h12 h13 h14
  grind
theorem mlt3_5 (p q r : Rat) : smN (fun i => chX3 p q r ((tysL 5 3)[i]?.getD [])) (tysL 5 3).length = (p + q + r) ^ 5 := by
  rw [show tysL 5 3 = [[0, 0, 5], [0, 1, 4], [0, 2, 3], [0, 3, 2], [0, 4, 1], [0, 5, 0], [1, 0, 4], [1, 1, 3], [1, 2, 2], [1, 3, 1], [1, 4, 0], [2, 0, 3], [2, 1, 2], [2, 2, 1], [2, 3, 0], [3, 0, 2], [3, 1, 1], [3, 2, 0], [4, 0, 1], [4, 1, 0], [5, 0, 0]] by decide]
  have h0 : chX3 p q r [0, 0, 5] = 1 * p ^ 0 * q ^ 0 * r ^ 5 := by
    show ((wsP [0, 0, 5] 3 : Nat) : Rat) * p ^ 0 * q ^ 0 * r ^ 5 = _
    rw [show ((wsP [0, 0, 5] 3 : Nat) : Rat) = 1 by decide +kernel]
  have h1 : chX3 p q r [0, 1, 4] = 5 * p ^ 0 * q ^ 1 * r ^ 4 := by
    show ((wsP [0, 1, 4] 3 : Nat) : Rat) * p ^ 0 * q ^ 1 * r ^ 4 = _
    rw [show ((wsP [0, 1, 4] 3 : Nat) : Rat) = 5 by decide +kernel]
  have h2 : chX3 p q r [0, 2, 3] = 10 * p ^ 0 * q ^ 2 * r ^ 3 := by
    show ((wsP [0, 2, 3] 3 : Nat) : Rat) * p ^ 0 * q ^ 2 * r ^ 3 = _
    rw [show ((wsP [0, 2, 3] 3 : Nat) : Rat) = 10 by decide +kernel]
  have h3 : chX3 p q r [0, 3, 2] = 10 * p ^ 0 * q ^ 3 * r ^ 2 := by
    show ((wsP [0, 3, 2] 3 : Nat) : Rat) * p ^ 0 * q ^ 3 * r ^ 2 = _
    rw [show ((wsP [0, 3, 2] 3 : Nat) : Rat) = 10 by decide +kernel]
  have h4 : chX3 p q r [0, 4, 1] = 5 * p ^ 0 * q ^ 4 * r ^ 1 := by
    show ((wsP [0, 4, 1] 3 : Nat) : Rat) * p ^ 0 * q ^ 4 * r ^ 1 = _
    rw [show ((wsP [0, 4, 1] 3 : Nat) : Rat) = 5 by decide +kernel]
  have h5 : chX3 p q r [0, 5, 0] = 1 * p ^ 0 * q ^ 5 * r ^ 0 := by
    show ((wsP [0, 5, 0] 3 : Nat) : Rat) * p ^ 0 * q ^ 5 * r ^ 0 = _
    rw [show ((wsP [0, 5, 0] 3 : Nat) : Rat) = 1 by decide +kernel]
  have h6 : chX3 p q r [1, 0, 4] = 5 * p ^ 1 * q ^ 0 * r ^ 4 := by
    show ((wsP [1, 0, 4] 3 : Nat) : Rat) * p ^ 1 * q ^ 0 * r ^ 4 = _
    rw [show ((wsP [1, 0, 4] 3 : Nat) : Rat) = 5 by decide +kernel]
  have h7 : chX3 p q r [1, 1, 3] = 20 * p ^ 1 * q ^ 1 * r ^ 3 := by
    show ((wsP [1, 1, 3] 3 : Nat) : Rat) * p ^ 1 * q ^ 1 * r ^ 3 = _
    rw [show ((wsP [1, 1, 3] 3 : Nat) : Rat) = 20 by decide +kernel]
  have h8 : chX3 p q r [1, 2, 2] = 30 * p ^ 1 * q ^ 2 * r ^ 2 := by
    show ((wsP [1, 2, 2] 3 : Nat) : Rat) * p ^ 1 * q ^ 2 * r ^ 2 = _
    rw [show ((wsP [1, 2, 2] 3 : Nat) : Rat) = 30 by decide +kernel]
  have h9 : chX3 p q r [1, 3, 1] = 20 * p ^ 1 * q ^ 3 * r ^ 1 := by
    show ((wsP [1, 3, 1] 3 : Nat) : Rat) * p ^ 1 * q ^ 3 * r ^ 1 = _
    rw [show ((wsP [1, 3, 1] 3 : Nat) : Rat) = 20 by decide +kernel]
  have h10 : chX3 p q r [1, 4, 0] = 5 * p ^ 1 * q ^ 4 * r ^ 0 := by
    show ((wsP [1, 4, 0] 3 : Nat) : Rat) * p ^ 1 * q ^ 4 * r ^ 0 = _
    rw [show ((wsP [1, 4, 0] 3 : Nat) : Rat) = 5 by decide +kernel]
  have h11 : chX3 p q r [2, 0, 3] = 10 * p ^ 2 * q ^ 0 * r ^ 3 := by
    show ((wsP [2, 0, 3] 3 : Nat) : Rat) * p ^ 2 * q ^ 0 * r ^ 3 = _
    rw [show ((wsP [2, 0, 3] 3 : Nat) : Rat) = 10 by decide +kernel]
  have h12 : chX3 p q r [2, 1, 2] = 30 * p ^ 2 * q ^ 1 * r ^ 2 := by
    show ((wsP [2, 1, 2] 3 : Nat) : Rat) * p ^ 2 * q ^ 1 * r ^ 2 = _
    rw [show ((wsP [2, 1, 2] 3 : Nat) : Rat) = 30 by decide +kernel]
  have h13 : chX3 p q r [2, 2, 1] = 30 * p ^ 2 * q ^ 2 * r ^ 1 := by
    show ((wsP [2, 2, 1] 3 : Nat) : Rat) * p ^ 2 * q ^ 2 * r ^ 1 = _
    rw [show ((wsP [2, 2, 1] 3 : Nat) : Rat) = 30 by decide +kernel]
  have h14 : chX3 p q r [2, 3, 0] = 10 * p ^ 2 * q ^ 3 * r ^ 0 := by
    show ((wsP [2, 3, 0] 3 : Nat) : Rat) * p ^ 2 * q ^ 3 * r ^ 0 = _
    rw [show ((wsP [2, 3, 0] 3 : Nat) : Rat) = 10 by decide +kernel]
  have h15 : chX3 p q r [3, 0, 2] = 10 * p ^ 3 * q ^ 0 * r ^ 2 := by
    show ((wsP [3, 0, 2] 3 : Nat) : Rat) * p ^ 3 * q ^ 0 * r ^ 2 = _
    rw [show ((wsP [3, 0, 2] 3 : Nat) : Rat) = 10 by decide +kernel]
  have h16 : chX3 p q r [3, 1, 1] = 20 * p ^ 3 * q ^ 1 * r ^ 1 := by
    show ((wsP [3, 1, 1] 3 : Nat) : Rat) * p ^ 3 * q ^ 1 * r ^ 1 = _
    rw [show ((wsP [3, 1, 1] 3 : Nat) : Rat) = 20 by decide +kernel]
  have h17 : chX3 p q r [3, 2, 0] = 10 * p ^ 3 * q ^ 2 * r ^ 0 := by
    show ((wsP [3, 2, 0] 3 : Nat) : Rat) * p ^ 3 * q ^ 2 * r ^ 0 = _
    rw [show ((wsP [3, 2, 0] 3 : Nat) : Rat) = 10 by decide +kernel]
  have h18 : chX3 p q r [4, 0, 1] = 5 * p ^ 4 * q ^ 0 * r ^ 1 := by
    show ((wsP [4, 0, 1] 3 : Nat) : Rat) * p ^ 4 * q ^ 0 * r ^ 1 = _
    rw [show ((wsP [4, 0, 1] 3 : Nat) : Rat) = 5 by decide +kernel]
  have h19 : chX3 p q r [4, 1, 0] = 5 * p ^ 4 * q ^ 1 * r ^ 0 := by
    show ((wsP [4, 1, 0] 3 : Nat) : Rat) * p ^ 4 * q ^ 1 * r ^ 0 = _
    rw [show ((wsP [4, 1, 0] 3 : Nat) : Rat) = 5 by decide +kernel]
  have h20 : chX3 p q r [5, 0, 0] = 1 * p ^ 5 * q ^ 0 * r ^ 0 := by
    show ((wsP [5, 0, 0] 3 : Nat) : Rat) * p ^ 5 * q ^ 0 * r ^ 0 = _
    rw [show ((wsP [5, 0, 0] 3 : Nat) : Rat) = 1 by decide +kernel]
  show 0 + chX3 p q r [0, 0, 5] + chX3 p q r [0, 1, 4] + chX3 p q r [0, 2, 3] + chX3 p q r [0, 3, 2] + chX3 p q r [0, 4, 1] + chX3 p q r [0, 5, 0] + chX3 p q r [1, 0, 4] + chX3 p q r [1, 1, 3] + chX3 p q r [1, 2, 2] + chX3 p q r [1, 3, 1] + chX3 p q r [1, 4, 0] + chX3 p q r [2, 0, 3] + chX3 p q r [2, 1, 2] + chX3 p q r [2, 2, 1] + chX3 p q r [2, 3, 0] + chX3 p q r [3, 0, 2] + chX3 p q r [3, 1, 1] + chX3 p q r [3, 2, 0] + chX3 p q r [4, 0, 1] + chX3 p q r [4, 1, 0] + chX3 p q r [5, 0, 0] = _
  rw [h0, h1, h2, h3, h4, h5, h6, h7, h8, h9, h10, h11, h12, h13, h14, h15, h16, h17, h18, h19, h20]
  clear h0 h1 h2 h3 h4 h5 h6 h7 h8 h9 h10 h11 h12 h13 h14 h15 h16 h17 h18 h19 h20
  grind
theorem mlt3_6 (p q r : Rat) : smN (fun i => chX3 p q r ((tysL 6 3)[i]?.getD [])) (tysL 6 3).length = (p + q + r) ^ 6 := by
  rw [show tysL 6 3 = [[0, 0, 6], [0, 1, 5], [0, 2, 4], [0, 3, 3], [0, 4, 2], [0, 5, 1], [0, 6, 0], [1, 0, 5], [1, 1, 4], [1, 2, 3], [1, 3, 2], [1, 4, 1], [1, 5, 0], [2, 0, 4], [2, 1, 3], [2, 2, 2], [2, 3, 1], [2, 4, 0], [3, 0, 3], [3, 1, 2], [3, 2, 1], [3, 3, 0], [4, 0, 2], [4, 1, 1], [4, 2, 0], [5, 0, 1], [5, 1, 0], [6, 0, 0]] by decide]
  have h0 : chX3 p q r [0, 0, 6] = 1 * p ^ 0 * q ^ 0 * r ^ 6 := by
    show ((wsP [0, 0, 6] 3 : Nat) : Rat) * p ^ 0 * q ^ 0 * r ^ 6 = _
    rw [show ((wsP [0, 0, 6] 3 : Nat) : Rat) = 1 by decide +kernel]
  have h1 : chX3 p q r [0, 1, 5] = 6 * p ^ 0 * q ^ 1 * r ^ 5 := by
    show ((wsP [0, 1, 5] 3 : Nat) : Rat) * p ^ 0 * q ^ 1 * r ^ 5 = _
    rw [show ((wsP [0, 1, 5] 3 : Nat) : Rat) = 6 by decide +kernel]
  have h2 : chX3 p q r [0, 2, 4] = 15 * p ^ 0 * q ^ 2 * r ^ 4 := by
    show ((wsP [0, 2, 4] 3 : Nat) : Rat) * p ^ 0 * q ^ 2 * r ^ 4 = _
    rw [show ((wsP [0, 2, 4] 3 : Nat) : Rat) = 15 by decide +kernel]
  have h3 : chX3 p q r [0, 3, 3] = 20 * p ^ 0 * q ^ 3 * r ^ 3 := by
    show ((wsP [0, 3, 3] 3 : Nat) : Rat) * p ^ 0 * q ^ 3 * r ^ 3 = _
    rw [show ((wsP [0, 3, 3] 3 : Nat) : Rat) = 20 by decide +kernel]
  have h4 : chX3 p q r [0, 4, 2] = 15 * p ^ 0 * q ^ 4 * r ^ 2 := by
    show ((wsP [0, 4, 2] 3 : Nat) : Rat) * p ^ 0 * q ^ 4 * r ^ 2 = _
    rw [show ((wsP [0, 4, 2] 3 : Nat) : Rat) = 15 by decide +kernel]
  have h5 : chX3 p q r [0, 5, 1] = 6 * p ^ 0 * q ^ 5 * r ^ 1 := by
    show ((wsP [0, 5, 1] 3 : Nat) : Rat) * p ^ 0 * q ^ 5 * r ^ 1 = _
    rw [show ((wsP [0, 5, 1] 3 : Nat) : Rat) = 6 by decide +kernel]
  have h6 : chX3 p q r [0, 6, 0] = 1 * p ^ 0 * q ^ 6 * r ^ 0 := by
    show ((wsP [0, 6, 0] 3 : Nat) : Rat) * p ^ 0 * q ^ 6 * r ^ 0 = _
    rw [show ((wsP [0, 6, 0] 3 : Nat) : Rat) = 1 by decide +kernel]
  have h7 : chX3 p q r [1, 0, 5] = 6 * p ^ 1 * q ^ 0 * r ^ 5 := by
    show ((wsP [1, 0, 5] 3 : Nat) : Rat) * p ^ 1 * q ^ 0 * r ^ 5 = _
    rw [show ((wsP [1, 0, 5] 3 : Nat) : Rat) = 6 by decide +kernel]
  have h8 : chX3 p q r [1, 1, 4] = 30 * p ^ 1 * q ^ 1 * r ^ 4 := by
    show ((wsP [1, 1, 4] 3 : Nat) : Rat) * p ^ 1 * q ^ 1 * r ^ 4 = _
    rw [show ((wsP [1, 1, 4] 3 : Nat) : Rat) = 30 by decide +kernel]
  have h9 : chX3 p q r [1, 2, 3] = 60 * p ^ 1 * q ^ 2 * r ^ 3 := by
    show ((wsP [1, 2, 3] 3 : Nat) : Rat) * p ^ 1 * q ^ 2 * r ^ 3 = _
    rw [show ((wsP [1, 2, 3] 3 : Nat) : Rat) = 60 by decide +kernel]
  have h10 : chX3 p q r [1, 3, 2] = 60 * p ^ 1 * q ^ 3 * r ^ 2 := by
    show ((wsP [1, 3, 2] 3 : Nat) : Rat) * p ^ 1 * q ^ 3 * r ^ 2 = _
    rw [show ((wsP [1, 3, 2] 3 : Nat) : Rat) = 60 by decide +kernel]
  have h11 : chX3 p q r [1, 4, 1] = 30 * p ^ 1 * q ^ 4 * r ^ 1 := by
    show ((wsP [1, 4, 1] 3 : Nat) : Rat) * p ^ 1 * q ^ 4 * r ^ 1 = _
    rw [show ((wsP [1, 4, 1] 3 : Nat) : Rat) = 30 by decide +kernel]
  have h12 : chX3 p q r [1, 5, 0] = 6 * p ^ 1 * q ^ 5 * r ^ 0 := by
    show ((wsP [1, 5, 0] 3 : Nat) : Rat) * p ^ 1 * q ^ 5 * r ^ 0 = _
    rw [show ((wsP [1, 5, 0] 3 : Nat) : Rat) = 6 by decide +kernel]
  have h13 : chX3 p q r [2, 0, 4] = 15 * p ^ 2 * q ^ 0 * r ^ 4 := by
    show ((wsP [2, 0, 4] 3 : Nat) : Rat) * p ^ 2 * q ^ 0 * r ^ 4 = _
    rw [show ((wsP [2, 0, 4] 3 : Nat) : Rat) = 15 by decide +kernel]
  have h14 : chX3 p q r [2, 1, 3] = 60 * p ^ 2 * q ^ 1 * r ^ 3 := by
    show ((wsP [2, 1, 3] 3 : Nat) : Rat) * p ^ 2 * q ^ 1 * r ^ 3 = _
    rw [show ((wsP [2, 1, 3] 3 : Nat) : Rat) = 60 by decide +kernel]
  have h15 : chX3 p q r [2, 2, 2] = 90 * p ^ 2 * q ^ 2 * r ^ 2 := by
    show ((wsP [2, 2, 2] 3 : Nat) : Rat) * p ^ 2 * q ^ 2 * r ^ 2 = _
    rw [show ((wsP [2, 2, 2] 3 : Nat) : Rat) = 90 by decide +kernel]
  have h16 : chX3 p q r [2, 3, 1] = 60 * p ^ 2 * q ^ 3 * r ^ 1 := by
    show ((wsP [2, 3, 1] 3 : Nat) : Rat) * p ^ 2 * q ^ 3 * r ^ 1 = _
    rw [show ((wsP [2, 3, 1] 3 : Nat) : Rat) = 60 by decide +kernel]
  have h17 : chX3 p q r [2, 4, 0] = 15 * p ^ 2 * q ^ 4 * r ^ 0 := by
    show ((wsP [2, 4, 0] 3 : Nat) : Rat) * p ^ 2 * q ^ 4 * r ^ 0 = _
    rw [show ((wsP [2, 4, 0] 3 : Nat) : Rat) = 15 by decide +kernel]
  have h18 : chX3 p q r [3, 0, 3] = 20 * p ^ 3 * q ^ 0 * r ^ 3 := by
    show ((wsP [3, 0, 3] 3 : Nat) : Rat) * p ^ 3 * q ^ 0 * r ^ 3 = _
    rw [show ((wsP [3, 0, 3] 3 : Nat) : Rat) = 20 by decide +kernel]
  have h19 : chX3 p q r [3, 1, 2] = 60 * p ^ 3 * q ^ 1 * r ^ 2 := by
    show ((wsP [3, 1, 2] 3 : Nat) : Rat) * p ^ 3 * q ^ 1 * r ^ 2 = _
    rw [show ((wsP [3, 1, 2] 3 : Nat) : Rat) = 60 by decide +kernel]
  have h20 : chX3 p q r [3, 2, 1] = 60 * p ^ 3 * q ^ 2 * r ^ 1 := by
    show ((wsP [3, 2, 1] 3 : Nat) : Rat) * p ^ 3 * q ^ 2 * r ^ 1 = _
    rw [show ((wsP [3, 2, 1] 3 : Nat) : Rat) = 60 by decide +kernel]
  have h21 : chX3 p q r [3, 3, 0] = 20 * p ^ 3 * q ^ 3 * r ^ 0 := by
    show ((wsP [3, 3, 0] 3 : Nat) : Rat) * p ^ 3 * q ^ 3 * r ^ 0 = _
    rw [show ((wsP [3, 3, 0] 3 : Nat) : Rat) = 20 by decide +kernel]
  have h22 : chX3 p q r [4, 0, 2] = 15 * p ^ 4 * q ^ 0 * r ^ 2 := by
    show ((wsP [4, 0, 2] 3 : Nat) : Rat) * p ^ 4 * q ^ 0 * r ^ 2 = _
    rw [show ((wsP [4, 0, 2] 3 : Nat) : Rat) = 15 by decide +kernel]
  have h23 : chX3 p q r [4, 1, 1] = 30 * p ^ 4 * q ^ 1 * r ^ 1 := by
    show ((wsP [4, 1, 1] 3 : Nat) : Rat) * p ^ 4 * q ^ 1 * r ^ 1 = _
    rw [show ((wsP [4, 1, 1] 3 : Nat) : Rat) = 30 by decide +kernel]
  have h24 : chX3 p q r [4, 2, 0] = 15 * p ^ 4 * q ^ 2 * r ^ 0 := by
    show ((wsP [4, 2, 0] 3 : Nat) : Rat) * p ^ 4 * q ^ 2 * r ^ 0 = _
    rw [show ((wsP [4, 2, 0] 3 : Nat) : Rat) = 15 by decide +kernel]
  have h25 : chX3 p q r [5, 0, 1] = 6 * p ^ 5 * q ^ 0 * r ^ 1 := by
    show ((wsP [5, 0, 1] 3 : Nat) : Rat) * p ^ 5 * q ^ 0 * r ^ 1 = _
    rw [show ((wsP [5, 0, 1] 3 : Nat) : Rat) = 6 by decide +kernel]
  have h26 : chX3 p q r [5, 1, 0] = 6 * p ^ 5 * q ^ 1 * r ^ 0 := by
    show ((wsP [5, 1, 0] 3 : Nat) : Rat) * p ^ 5 * q ^ 1 * r ^ 0 = _
    rw [show ((wsP [5, 1, 0] 3 : Nat) : Rat) = 6 by decide +kernel]
  have h27 : chX3 p q r [6, 0, 0] = 1 * p ^ 6 * q ^ 0 * r ^ 0 := by
    show ((wsP [6, 0, 0] 3 : Nat) : Rat) * p ^ 6 * q ^ 0 * r ^ 0 = _
    rw [show ((wsP [6, 0, 0] 3 : Nat) : Rat) = 1 by decide +kernel]
  show 0 + chX3 p q r [0, 0, 6] + chX3 p q r [0, 1, 5] + chX3 p q r [0, 2, 4] + chX3 p q r [0, 3, 3] + chX3 p q r [0, 4, 2] + chX3 p q r [0, 5, 1] + chX3 p q r [0, 6, 0] + chX3 p q r [1, 0, 5] + chX3 p q r [1, 1, 4] + chX3 p q r [1, 2, 3] + chX3 p q r [1, 3, 2] + chX3 p q r [1, 4, 1] + chX3 p q r [1, 5, 0] + chX3 p q r [2, 0, 4] + chX3 p q r [2, 1, 3] + chX3 p q r [2, 2, 2] + chX3 p q r [2, 3, 1] + chX3 p q r [2, 4, 0] + chX3 p q r [3, 0, 3] + chX3 p q r [3, 1, 2] + chX3 p q r [3, 2, 1] + chX3 p q r [3, 3, 0] + chX3 p q r [4, 0, 2] + chX3 p q r [4, 1, 1] + chX3 p q r [4, 2, 0] + chX3 p q r [5, 0, 1] + chX3 p q r [5, 1, 0] + chX3 p q r [6, 0, 0] = _
  rw [h0, h1, h2, h3, h4, h5, h6, h7, h8, h9, h10, h11, h12, h13, h14, h15, h16, h17, h18, h19, h20, h21, h22, h23, h24, h25, h26, h27]
  clear h0 h1 h2 h3 h4 h5 h6 h7 h8 h9 h10 h11 h12 h13 h14 h15 h16 h17 h18 h19 h20 h21 h22 h23 h24 h25 h26 h27
  grind
theorem mlt3_7 (p q r : Rat) : smN (fun i => chX3 p q r ((tysL 7 3)[i]?.getD [])) (tysL 7 3).length = (p + q + r) ^ 7 := by
  rw [show tysL 7 3 = [[0, 0, 7], [0, 1, 6], [0, 2, 5], [0, 3, 4], [0, 4, 3], [0, 5, 2], [0, 6, 1], [0, 7, 0], [1, 0, 6], [1, 1, 5], [1, 2, 4], [1, 3, 3], [1, 4, 2], [1, 5, 1], [1, 6, 0], [2, 0, 5], [2, 1, 4], [2, 2, 3], [2, 3, 2], [2, 4, 1], [2, 5, 0], [3, 0, 4], [3, 1, 3], [3, 2, 2], [3, 3, 1], [3, 4, 0], [4, 0, 3], [4, 1, 2], [4, 2, 1], [4, 3, 0], [5, 0, 2], [5, 1, 1], [5, 2, 0], [6, 0, 1], [6, 1, 0], [7, 0, 0]] by decide]
  have h0 : chX3 p q r [0, 0, 7] = 1 * p ^ 0 * q ^ 0 * r ^ 7 := by
    show ((wsP [0, 0, 7] 3 : Nat) : Rat) * p ^ 0 * q ^ 0 * r ^ 7 = _
    rw [show ((wsP [0, 0, 7] 3 : Nat) : Rat) = 1 by decide +kernel]
  have h1 : chX3 p q r [0, 1, 6] = 7 * p ^ 0 * q ^ 1 * r ^ 6 := by
    show ((wsP [0, 1, 6] 3 : Nat) : Rat) * p ^ 0 * q ^ 1 * r ^ 6 = _
    rw [show ((wsP [0, 1, 6] 3 : Nat) : Rat) = 7 by decide +kernel]
  have h2 : chX3 p q r [0, 2, 5] = 21 * p ^ 0 * q ^ 2 * r ^ 5 := by
    show ((wsP [0, 2, 5] 3 : Nat) : Rat) * p ^ 0 * q ^ 2 * r ^ 5 = _
    rw [show ((wsP [0, 2, 5] 3 : Nat) : Rat) = 21 by decide +kernel]
  have h3 : chX3 p q r [0, 3, 4] = 35 * p ^ 0 * q ^ 3 * r ^ 4 := by
    show ((wsP [0, 3, 4] 3 : Nat) : Rat) * p ^ 0 * q ^ 3 * r ^ 4 = _
    rw [show ((wsP [0, 3, 4] 3 : Nat) : Rat) = 35 by decide +kernel]
  have h4 : chX3 p q r [0, 4, 3] = 35 * p ^ 0 * q ^ 4 * r ^ 3 := by
    show ((wsP [0, 4, 3] 3 : Nat) : Rat) * p ^ 0 * q ^ 4 * r ^ 3 = _
    rw [show ((wsP [0, 4, 3] 3 : Nat) : Rat) = 35 by decide +kernel]
  have h5 : chX3 p q r [0, 5, 2] = 21 * p ^ 0 * q ^ 5 * r ^ 2 := by
    show ((wsP [0, 5, 2] 3 : Nat) : Rat) * p ^ 0 * q ^ 5 * r ^ 2 = _
    rw [show ((wsP [0, 5, 2] 3 : Nat) : Rat) = 21 by decide +kernel]
  have h6 : chX3 p q r [0, 6, 1] = 7 * p ^ 0 * q ^ 6 * r ^ 1 := by
    show ((wsP [0, 6, 1] 3 : Nat) : Rat) * p ^ 0 * q ^ 6 * r ^ 1 = _
    rw [show ((wsP [0, 6, 1] 3 : Nat) : Rat) = 7 by decide +kernel]
  have h7 : chX3 p q r [0, 7, 0] = 1 * p ^ 0 * q ^ 7 * r ^ 0 := by
    show ((wsP [0, 7, 0] 3 : Nat) : Rat) * p ^ 0 * q ^ 7 * r ^ 0 = _
    rw [show ((wsP [0, 7, 0] 3 : Nat) : Rat) = 1 by decide +kernel]
  have h8 : chX3 p q r [1, 0, 6] = 7 * p ^ 1 * q ^ 0 * r ^ 6 := by
    show ((wsP [1, 0, 6] 3 : Nat) : Rat) * p ^ 1 * q ^ 0 * r ^ 6 = _
    rw [show ((wsP [1, 0, 6] 3 : Nat) : Rat) = 7 by decide +kernel]
  have h9 : chX3 p q r [1, 1, 5] = 42 * p ^ 1 * q ^ 1 * r ^ 5 := by
    show ((wsP [1, 1, 5] 3 : Nat) : Rat) * p ^ 1 * q ^ 1 * r ^ 5 = _
    rw [show ((wsP [1, 1, 5] 3 : Nat) : Rat) = 42 by decide +kernel]
  have h10 : chX3 p q r [1, 2, 4] = 105 * p ^ 1 * q ^ 2 * r ^ 4 := by
    show ((wsP [1, 2, 4] 3 : Nat) : Rat) * p ^ 1 * q ^ 2 * r ^ 4 = _
    rw [show ((wsP [1, 2, 4] 3 : Nat) : Rat) = 105 by decide +kernel]
  have h11 : chX3 p q r [1, 3, 3] = 140 * p ^ 1 * q ^ 3 * r ^ 3 := by
    show ((wsP [1, 3, 3] 3 : Nat) : Rat) * p ^ 1 * q ^ 3 * r ^ 3 = _
    rw [show ((wsP [1, 3, 3] 3 : Nat) : Rat) = 140 by decide +kernel]
  have h12 : chX3 p q r [1, 4, 2] = 105 * p ^ 1 * q ^ 4 * r ^ 2 := by
    show ((wsP [1, 4, 2] 3 : Nat) : Rat) * p ^ 1 * q ^ 4 * r ^ 2 = _
    rw [show ((wsP [1, 4, 2] 3 : Nat) : Rat) = 105 by decide +kernel]
  have h13 : chX3 p q r [1, 5, 1] = 42 * p ^ 1 * q ^ 5 * r ^ 1 := by
    show ((wsP [1, 5, 1] 3 : Nat) : Rat) * p ^ 1 * q ^ 5 * r ^ 1 = _
    rw [show ((wsP [1, 5, 1] 3 : Nat) : Rat) = 42 by decide +kernel]
  have h14 : chX3 p q r [1, 6, 0] = 7 * p ^ 1 * q ^ 6 * r ^ 0 := by
    show ((wsP [1, 6, 0] 3 : Nat) : Rat) * p ^ 1 * q ^ 6 * r ^ 0 = _
    rw [show ((wsP [1, 6, 0] 3 : Nat) : Rat) = 7 by decide +kernel]
  have h15 : chX3 p q r [2, 0, 5] = 21 * p ^ 2 * q ^ 0 * r ^ 5 := by
    show ((wsP [2, 0, 5] 3 : Nat) : Rat) * p ^ 2 * q ^ 0 * r ^ 5 = _
    rw [show ((wsP [2, 0, 5] 3 : Nat) : Rat) = 21 by decide +kernel]
  have h16 : chX3 p q r [2, 1, 4] = 105 * p ^ 2 * q ^ 1 * r ^ 4 := by
    show ((wsP [2, 1, 4] 3 : Nat) : Rat) * p ^ 2 * q ^ 1 * r ^ 4 = _
    rw [show ((wsP [2, 1, 4] 3 : Nat) : Rat) = 105 by decide +kernel]
  have h17 : chX3 p q r [2, 2, 3] = 210 * p ^ 2 * q ^ 2 * r ^ 3 := by
    show ((wsP [2, 2, 3] 3 : Nat) : Rat) * p ^ 2 * q ^ 2 * r ^ 3 = _
    rw [show ((wsP [2, 2, 3] 3 : Nat) : Rat) = 210 by decide +kernel]
  have h18 : chX3 p q r [2, 3, 2] = 210 * p ^ 2 * q ^ 3 * r ^ 2 := by
    show ((wsP [2, 3, 2] 3 : Nat) : Rat) * p ^ 2 * q ^ 3 * r ^ 2 = _
    rw [show ((wsP [2, 3, 2] 3 : Nat) : Rat) = 210 by decide +kernel]
  have h19 : chX3 p q r [2, 4, 1] = 105 * p ^ 2 * q ^ 4 * r ^ 1 := by
    show ((wsP [2, 4, 1] 3 : Nat) : Rat) * p ^ 2 * q ^ 4 * r ^ 1 = _
    rw [show ((wsP [2, 4, 1] 3 : Nat) : Rat) = 105 by decide +kernel]
  have h20 : chX3 p q r [2, 5, 0] = 21 * p ^ 2 * q ^ 5 * r ^ 0 := by
    show ((wsP [2, 5, 0] 3 : Nat) : Rat) * p ^ 2 * q ^ 5 * r ^ 0 = _
    rw [show ((wsP [2, 5, 0] 3 : Nat) : Rat) = 21 by decide +kernel]
  have h21 : chX3 p q r [3, 0, 4] = 35 * p ^ 3 * q ^ 0 * r ^ 4 := by
    show ((wsP [3, 0, 4] 3 : Nat) : Rat) * p ^ 3 * q ^ 0 * r ^ 4 = _
    rw [show ((wsP [3, 0, 4] 3 : Nat) : Rat) = 35 by decide +kernel]
  have h22 : chX3 p q r [3, 1, 3] = 140 * p ^ 3 * q ^ 1 * r ^ 3 := by
    show ((wsP [3, 1, 3] 3 : Nat) : Rat) * p ^ 3 * q ^ 1 * r ^ 3 = _
    rw [show ((wsP [3, 1, 3] 3 : Nat) : Rat) = 140 by decide +kernel]
  have h23 : chX3 p q r [3, 2, 2] = 210 * p ^ 3 * q ^ 2 * r ^ 2 := by
    show ((wsP [3, 2, 2] 3 : Nat) : Rat) * p ^ 3 * q ^ 2 * r ^ 2 = _
    rw [show ((wsP [3, 2, 2] 3 : Nat) : Rat) = 210 by decide +kernel]
  have h24 : chX3 p q r [3, 3, 1] = 140 * p ^ 3 * q ^ 3 * r ^ 1 := by
    show ((wsP [3, 3, 1] 3 : Nat) : Rat) * p ^ 3 * q ^ 3 * r ^ 1 = _
    rw [show ((wsP [3, 3, 1] 3 : Nat) : Rat) = 140 by decide +kernel]
  have h25 : chX3 p q r [3, 4, 0] = 35 * p ^ 3 * q ^ 4 * r ^ 0 := by
    show ((wsP [3, 4, 0] 3 : Nat) : Rat) * p ^ 3 * q ^ 4 * r ^ 0 = _
    rw [show ((wsP [3, 4, 0] 3 : Nat) : Rat) = 35 by decide +kernel]
  have h26 : chX3 p q r [4, 0, 3] = 35 * p ^ 4 * q ^ 0 * r ^ 3 := by
    show ((wsP [4, 0, 3] 3 : Nat) : Rat) * p ^ 4 * q ^ 0 * r ^ 3 = _
    rw [show ((wsP [4, 0, 3] 3 : Nat) : Rat) = 35 by decide +kernel]
  have h27 : chX3 p q r [4, 1, 2] = 105 * p ^ 4 * q ^ 1 * r ^ 2 := by
    show ((wsP [4, 1, 2] 3 : Nat) : Rat) * p ^ 4 * q ^ 1 * r ^ 2 = _
    rw [show ((wsP [4, 1, 2] 3 : Nat) : Rat) = 105 by decide +kernel]
  have h28 : chX3 p q r [4, 2, 1] = 105 * p ^ 4 * q ^ 2 * r ^ 1 := by
    show ((wsP [4, 2, 1] 3 : Nat) : Rat) * p ^ 4 * q ^ 2 * r ^ 1 = _
    rw [show ((wsP [4, 2, 1] 3 : Nat) : Rat) = 105 by decide +kernel]
  have h29 : chX3 p q r [4, 3, 0] = 35 * p ^ 4 * q ^ 3 * r ^ 0 := by
    show ((wsP [4, 3, 0] 3 : Nat) : Rat) * p ^ 4 * q ^ 3 * r ^ 0 = _
    rw [show ((wsP [4, 3, 0] 3 : Nat) : Rat) = 35 by decide +kernel]
  have h30 : chX3 p q r [5, 0, 2] = 21 * p ^ 5 * q ^ 0 * r ^ 2 := by
    show ((wsP [5, 0, 2] 3 : Nat) : Rat) * p ^ 5 * q ^ 0 * r ^ 2 = _
    rw [show ((wsP [5, 0, 2] 3 : Nat) : Rat) = 21 by decide +kernel]
  have h31 : chX3 p q r [5, 1, 1] = 42 * p ^ 5 * q ^ 1 * r ^ 1 := by
    show ((wsP [5, 1, 1] 3 : Nat) : Rat) * p ^ 5 * q ^ 1 * r ^ 1 = _
    rw [show ((wsP [5, 1, 1] 3 : Nat) : Rat) = 42 by decide +kernel]
  have h32 : chX3 p q r [5, 2, 0] = 21 * p ^ 5 * q ^ 2 * r ^ 0 := by
    show ((wsP [5, 2, 0] 3 : Nat) : Rat) * p ^ 5 * q ^ 2 * r ^ 0 = _
    rw [show ((wsP [5, 2, 0] 3 : Nat) : Rat) = 21 by decide +kernel]
  have h33 : chX3 p q r [6, 0, 1] = 7 * p ^ 6 * q ^ 0 * r ^ 1 := by
    show ((wsP [6, 0, 1] 3 : Nat) : Rat) * p ^ 6 * q ^ 0 * r ^ 1 = _
    rw [show ((wsP [6, 0, 1] 3 : Nat) : Rat) = 7 by decide +kernel]
  have h34 : chX3 p q r [6, 1, 0] = 7 * p ^ 6 * q ^ 1 * r ^ 0 := by
    show ((wsP [6, 1, 0] 3 : Nat) : Rat) * p ^ 6 * q ^ 1 * r ^ 0 = _
    rw [show ((wsP [6, 1, 0] 3 : Nat) : Rat) = 7 by decide +kernel]
  have h35 : chX3 p q r [7, 0, 0] = 1 * p ^ 7 * q ^ 0 * r ^ 0 := by
    show ((wsP [7, 0, 0] 3 : Nat) : Rat) * p ^ 7 * q ^ 0 * r ^ 0 = _
    rw [show ((wsP [7, 0, 0] 3 : Nat) : Rat) = 1 by decide +kernel]
  show 0 + chX3 p q r [0, 0, 7] + chX3 p q r [0, 1, 6] + chX3 p q r [0, 2, 5] + chX3 p q r [0, 3, 4] + chX3 p q r [0, 4, 3] + chX3 p q r [0, 5, 2] + chX3 p q r [0, 6, 1] + chX3 p q r [0, 7, 0] + chX3 p q r [1, 0, 6] + chX3 p q r [1, 1, 5] + chX3 p q r [1, 2, 4] + chX3 p q r [1, 3, 3] + chX3 p q r [1, 4, 2] + chX3 p q r [1, 5, 1] + chX3 p q r [1, 6, 0] + chX3 p q r [2, 0, 5] + chX3 p q r [2, 1, 4] + chX3 p q r [2, 2, 3] + chX3 p q r [2, 3, 2] + chX3 p q r [2, 4, 1] + chX3 p q r [2, 5, 0] + chX3 p q r [3, 0, 4] + chX3 p q r [3, 1, 3] + chX3 p q r [3, 2, 2] + chX3 p q r [3, 3, 1] + chX3 p q r [3, 4, 0] + chX3 p q r [4, 0, 3] + chX3 p q r [4, 1, 2] + chX3 p q r [4, 2, 1] + chX3 p q r [4, 3, 0] + chX3 p q r [5, 0, 2] + chX3 p q r [5, 1, 1] + chX3 p q r [5, 2, 0] + chX3 p q r [6, 0, 1] + chX3 p q r [6, 1, 0] + chX3 p q r [7, 0, 0] = _
  rw [h0, h1, h2, h3, h4, h5, h6, h7, h8, h9, h10, h11, h12, h13, h14, h15, h16, h17, h18, h19, h20, h21, h22, h23, h24, h25, h26, h27, h28, h29, h30, h31, h32, h33, h34, h35]
  clear h0 h1 h2 h3 h4 h5 h6 h7 h8 h9 h10 h11 h12 h13 h14 h15 h16 h17 h18 h19 h20 h21 h22 h23 h24 h25 h26 h27 h28 h29 h30 h31 h32 h33 h34 h35
  grind

end Go.Proofs.Ytmocfnpbofeiiaa
