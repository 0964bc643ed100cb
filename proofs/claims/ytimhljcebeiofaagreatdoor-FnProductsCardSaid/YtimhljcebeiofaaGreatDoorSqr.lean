/- Square roots: how near the square of a root is. -/
import Derived.Test.YtimhljcebeiofaaGreatDoorApX
namespace Go.Proofs.YtimhljcebeiofaaGreatDoor
set_option linter.unusedSimpArgs false
set_option linter.unusedVariables false
open Ieee
theorem rootFrom_ok (n : Nat) : ∀ todo root : Nat, root * root ≤ n → n < (root + 2 ^ todo) * (root + 2 ^ todo) → Datum.rootFrom n todo root * Datum.rootFrom n todo root ≤ n ∧ n < (Datum.rootFrom n todo root + 1) * (Datum.rootFrom n todo root + 1) := by
  intro todo
  induction todo with
  | zero => intro root h1 h2; exact ⟨h1, h2⟩
  | succ t ih =>
    intro root h1 h2
    unfold Datum.rootFrom
    simp only [Nat.one_shiftLeft]
    have e : root + 2 ^ (t + 1) = root + 2 ^ t + 2 ^ t := by rw [Nat.pow_succ]; omega
    by_cases hc : (root + 2 ^ t) * (root + 2 ^ t) ≤ n
    · rw [if_pos hc]
      exact ih _ hc (by rw [e] at h2; exact h2)
    · rw [if_neg hc]
      exact ih _ h1 (by omega)
theorem root_start (n : Nat) : n < (0 + 2 ^ (n.log2 / 2 + 1)) * (0 + 2 ^ (n.log2 / 2 + 1)) := by
  rw [Nat.zero_add, ← Nat.pow_add]
  exact Nat.lt_of_lt_of_le Nat.lt_log2_self (Nat.pow_le_pow_right (by decide) (by omega))
/-- The number that a root is rounded from. -/
theorem sqrt_rnd {x : Nat} (hx : Fnt double x) (hs : sg double x = false) : ∃ w v, double.sqrt x = some w ∧ Rnd double v w ∧ 0 ≤ v ∧ av (v * v - sv double x) ≤ sv double x * (1 / 1000000000000000) := by
  obtain ⟨m, i, e1, e2, e3⟩ := read_fin2 double x hx
  have hsv : sv double x = pv m i := by unfold sv; rw [hs, e2]; rfl
  rw [hs] at e1
  by_cases h0 : m = 0
  · obtain ⟨r, h1, h2⟩ := nearest_spec double (by decide) false 0 i
    rw [pv_zero] at h2
    refine ⟨_, 0, ?_, ⟨false, r, rfl, h2, fun _ => rfl, fun h => by exact absurd h (by decide +kernel)⟩, Rat.le_refl, ?_⟩
    · unfold Format.sqrt
      rw [e1]
      subst h0
      simp only [Datum.root, if_true, Option.map_some]
      rw [← h1]
      rfl
    · rw [hsv, h0, pv_zero]; decide +kernel
  · obtain ⟨more, hm⟩ : ∃ more, more = 2 * (double.fractionBits + 2) - m.log2 := ⟨_, rfl⟩
    obtain ⟨mo, hmo⟩ : ∃ mo : Nat, mo = more + ((i - more) % 2).toNat := ⟨_, rfl⟩
    obtain ⟨n, hn⟩ : ∃ n, n = m <<< mo := ⟨_, rfl⟩
    obtain ⟨W, hW⟩ : ∃ W, W = Datum.rootFrom n (n.log2 / 2 + 1) 0 := ⟨_, rfl⟩
    obtain ⟨r1, r2⟩ := rootFrom_ok n (n.log2 / 2 + 1) 0 (by omega) (root_start n)
    rw [← hW] at r1 r2
    have hbig : 2 ^ 108 ≤ n := by
      rw [hn, Nat.shiftLeft_eq]
      have h1 := Nat.log2_self_le h0
      have h2 : m.log2 + mo ≥ 108 := by
        have : double.fractionBits = 52 := rfl
        omega
      refine Nat.le_trans ?_ (Nat.mul_le_mul_right _ h1)
      rw [← Nat.pow_add]
      exact Nat.pow_le_pow_right (by decide) h2
    have hWb : 2 ^ 54 ≤ W := by
      have : ¬ W + 1 ≤ 2 ^ 54 := fun hc => by
        have := Nat.mul_le_mul hc hc
        omega
      omega
    obtain ⟨q, hq⟩ : ∃ q : Int, q = (i - mo) / 2 := ⟨_, rfl⟩
    have hq2 : i - mo = 2 * q := by omega
    obtain ⟨st, hst⟩ : ∃ st : Nat, st = (W * W != n).toNat := ⟨_, rfl⟩
    obtain ⟨r, h1, h2⟩ := nearest_spec double (by decide) false (2 * W + st) (q - 1)
    have v0 := pv_nonneg (2 * W + st) (q - 1)
    refine ⟨_, pv (2 * W + st) (q - 1), ?_, ⟨false, r, rfl, by rw [av_of_nonneg v0]; exact h2, fun _ => rfl, fun h => by grind⟩, v0, ?_⟩
    · unfold Format.sqrt
      rw [e1]
      simp only [Datum.root, if_neg h0, Bool.false_eq_true, if_false, Option.map_some]
      rw [← hm, ← hmo, ← hn, ← hW, ← hst, ← hq, ← h1]
      rfl
    · have eB : sv double x = pv (4 * n) (2 * q - 2) := by
        rw [hsv, hn, Nat.shiftLeft_eq, show 4 * (m * 2 ^ mo) = m * 2 ^ (mo + 2) by rw [Nat.pow_add, show 2 ^ 2 = 4 from rfl, Nat.mul_comm 4, Nat.mul_assoc], pv_shift]
        congr 1
        omega
      have eA : pv (2 * W + st) (q - 1) * pv (2 * W + st) (q - 1) = pv ((2 * W + st) * (2 * W + st)) (2 * q - 2) := by
        rw [pv_mul]
        congr 1
        omega
      have N : (2 * W + st) * (2 * W + st) ≤ 4 * n + 4 * W ∧ 4 * n ≤ (2 * W + st) * (2 * W + st) + 4 * W := by
        by_cases hc : W * W = n
        · have : st = 0 := by rw [hst, hc]; simp
          subst this
          rw [Nat.add_zero, show 2 * W * (2 * W) = 4 * (W * W) by rw [Nat.mul_mul_mul_comm], hc]
          omega
        · have : st = 1 := by rw [hst]; simp [hc]
          subst this
          have e : (2 * W + 1) * (2 * W + 1) = 4 * (W * W) + 4 * W + 1 := by
            rw [Nat.add_mul, Nat.mul_add, Nat.mul_mul_mul_comm]; omega
          have e' : (W + 1) * (W + 1) = W * W + 2 * W + 1 := by rw [Nat.add_mul, Nat.mul_add]; omega
          rw [e]
          omega
      have N2 : 4 * W * 18014398509481984 ≤ 4 * n := by
        have h := Nat.mul_le_mul_left W hWb
        rw [Nat.mul_assoc]
        exact Nat.mul_le_mul_left 4 (Nat.le_trans h r1)
      have a := pv_le (2 * q - 2) N.1
      have b := pv_le (2 * q - 2) N.2
      have c := pv_le (2 * q - 2) N2
      rw [pv_add] at a b
      have d : pv (4 * W * 18014398509481984) (2 * q - 2) = pv (4 * W) (2 * q - 2) * 18014398509481984 := by
        unfold pv
        rw [Rat.natCast_mul, show ((18014398509481984 : Nat) : Rat) = 18014398509481984 from rfl]
        grind
      rw [d] at c
      rw [eA, eB]
      have p0 := pv_nonneg (4 * W) (2 * q - 2)
      exact av_le (by grind) (by grind)

end Go.Proofs.YtimhljcebeiofaaGreatDoor
