/- The logarithm of any positive fraction. Plain: no program. -/
import Derived.Test.YtimhljcebeiofaaLgR
namespace Go.Proofs.Ytimhljcebeiofaa
set_option linter.unusedSimpArgs false
set_option linter.unusedVariables false
open Ieee

theorem p2_lt {a b : Int} (h : a < b) : (2 : Rat) * 2 ^ a ≤ 2 ^ b := by
  rw [← p2_succ]
  have e : b = (a + 1) + ((b - a - 1).toNat : Int) := by omega
  have e2 : (2 : Rat) ^ b = 2 ^ (a + 1) * 2 ^ (((b - a - 1).toNat : Nat) : Int) := by rw [← p2_add, ← e]
  rw [e2]
  have h1 := p2_pos (a + 1)
  have h2 : (1 : Rat) ≤ 2 ^ (((b - a - 1).toNat : Nat) : Int) := by
    rw [p2_nat]
    exact_mod_cast Nat.one_le_two_pow
  have := Rat.mul_le_mul_of_nonneg_left h2 (Rat.le_of_lt h1)
  rwa [Rat.mul_one] at this
theorem rat_div (x : Rat) : x = (x.num : Rat) / ((x.den : Nat) : Rat) := by
  have h := Rat.num_divInt_den x
  rw [Rat.divInt_eq_div] at h
  exact h.symm
theorem lg_ex {x : Rat} (hx : 0 < x) : ∃ (e : Int) (m : Rat), 3 / 4 ≤ m ∧ m ≤ 3 / 2 ∧ x = m * 2 ^ e := by
  have up : ∀ k : Nat, ∀ y : Rat, 3 / 4 ≤ y → y ≤ 3 / 2 * 2 ^ (k : Int) → ∃ (e : Int) (m : Rat), 3 / 4 ≤ m ∧ m ≤ 3 / 2 ∧ y = m * 2 ^ e := by
    intro k
    induction k with
    | zero =>
      intro y h1 h2
      refine ⟨0, y, h1, ?_, ?_⟩
      · have : (2 : Rat) ^ ((0 : Nat) : Int) = 1 := by decide +kernel
        grind
      · have : (2 : Rat) ^ (0 : Int) = 1 := by decide +kernel
        grind
    | succ k ih =>
      intro y h1 h2
      by_cases h3 : y ≤ 3 / 2
      · exact ⟨0, y, h1, h3, by have : (2 : Rat) ^ (0 : Int) = 1 := by decide +kernel
                                grind⟩
      · rw [Int.natCast_add, show ((1 : Nat) : Int) = 1 from rfl, p2_succ] at h2
        obtain ⟨e, m, g1, g2, g3⟩ := ih (y / 2) (by grind) (by grind)
        refine ⟨e + 1, m, g1, g2, ?_⟩
        rw [p2_succ]; grind
  have down : ∀ k : Nat, ∀ y : Rat, 0 < y → 3 / 4 ≤ y * 2 ^ (k : Int) → ∃ (e : Int) (m : Rat), 3 / 4 ≤ m ∧ m ≤ 3 / 2 ∧ y = m * 2 ^ e := by
    intro k
    induction k with
    | zero =>
      intro y h0 h1
      have h1 : 3 / 4 ≤ y := by
        have : (2 : Rat) ^ ((0 : Nat) : Int) = 1 := by decide +kernel
        grind
      refine up y.num.toNat y h1 ?_
      have hd : (1 : Rat) ≤ (y.den : Rat) := by exact_mod_cast y.den_pos
      have hn : y = (y.num : Rat) / (y.den : Rat) := rat_div y
      have hy : y * (y.den : Rat) = (y.num : Rat) := by
        have h0 : (y.den : Rat) ≠ 0 := by grind
        have := Rat.div_mul_cancel (a := (y.num : Rat)) h0
        rw [← hn] at this; exact this
      have hnn : 0 ≤ y.num := Rat.num_nonneg.2 (Rat.le_of_lt h0)
      have hnum : (y.num : Rat) = ((y.num.toNat : Nat) : Rat) := by
        have : y.num = ((y.num.toNat : Nat) : Int) := by omega
        calc (y.num : Rat) = (((y.num.toNat : Nat) : Int) : Rat) := by rw [← this]
          _ = ((y.num.toNat : Nat) : Rat) := Rat.intCast_natCast _
      have hyn : y ≤ ((y.num.toNat : Nat) : Rat) := by
        rw [← hnum, ← hy]
        have := Rat.mul_le_mul_of_nonneg_left hd (Rat.le_of_lt h0)
        grind
      rw [p2_nat]
      have hp : ((y.num.toNat : Nat) : Rat) ≤ ((2 ^ y.num.toNat : Nat) : Rat) := by exact_mod_cast Nat.le_of_lt Nat.lt_two_pow_self
      generalize ((2 ^ y.num.toNat : Nat) : Rat) = P at *
      have : 0 ≤ P := by grind
      grind
    | succ k ih =>
      intro y h0 h1
      rw [Int.natCast_add, show ((1 : Nat) : Int) = 1 from rfl, p2_succ] at h1
      obtain ⟨e, m, g1, g2, g3⟩ := ih (y * 2) (by grind) (by grind)
      refine ⟨e - 1, m, g1, g2, ?_⟩
      have := p2_succ (e - 1)
      rw [show e - 1 + 1 = e by omega] at this
      grind
  refine down (x.den) x hx ?_
  have hd : (1 : Rat) ≤ (x.den : Rat) := by exact_mod_cast x.den_pos
  have hn : x = (x.num : Rat) / (x.den : Rat) := rat_div x
  have hy : x * (x.den : Rat) = (x.num : Rat) := by
    have h0 : (x.den : Rat) ≠ 0 := by grind
    have := Rat.div_mul_cancel (a := (x.num : Rat)) h0
    rw [← hn] at this; exact this
  have hnp : 0 < x.num := by have := (Rat.lt_iff 0 x).1 hx; simpa using this
  have h1 : (1 : Rat) ≤ (x.num : Rat) := by exact_mod_cast hnp
  rw [p2_nat]
  have hp : ((x.den : Nat) : Rat) ≤ ((2 ^ x.den : Nat) : Rat) := by exact_mod_cast Nat.le_of_lt Nat.lt_two_pow_self
  have := Rat.mul_le_mul_of_nonneg_left hp (Rat.le_of_lt hx)
  grind
theorem lg_uniq {m n : Rat} {e f : Int} (m1 : 3 / 4 ≤ m) (m2 : m ≤ 3 / 2) (n1 : 3 / 4 ≤ n) (n2 : n ≤ 3 / 2) (h : m * 2 ^ e = n * 2 ^ f) : lgG m + (e : Rat) * lg2 = lgG n + (f : Rat) * lg2 := by
  have key : ∀ {m n : Rat} {e f : Int}, 3 / 4 ≤ m → m ≤ 3 / 2 → 3 / 4 ≤ n → n ≤ 3 / 2 → m * 2 ^ e = n * 2 ^ f → e < f → lgG m + (e : Rat) * lg2 = lgG n + (f : Rat) * lg2 := by
    intro m n e f m1 m2 n1 n2 h hlt
    have hp := p2_lt hlt
    have he := p2_pos e
    have k1 := Rat.mul_le_mul_of_nonneg_right m2 (Rat.le_of_lt he)
    have k2 := Rat.mul_le_mul_of_nonneg_right n1 (Rat.le_of_lt (p2_pos f))
    have hfe : f = e + 1 := by
      by_cases hc : f = e + 1
      · exact hc
      · have h2 := p2_lt (show e + 1 < f by omega)
        rw [p2_succ] at h2
        grind
    subst hfe
    rw [p2_succ] at h k2 hp
    have hm : m = 2 * n := by
      have : m * 2 ^ e = (2 * n) * 2 ^ e := by grind
      have h0 : (2 : Rat) ^ e ≠ 0 := by grind
      have := congrArg (· * ((2 : Rat) ^ e)⁻¹) this
      simp only [Rat.mul_assoc, Rat.mul_inv_cancel _ h0, Rat.mul_one] at this
      exact this
    have hm2 : m = 3 / 2 := by grind
    have hn2 : n = 3 / 4 := by grind
    subst hm2
    subst hn2
    unfold lg2
    rw [Rat.intCast_add, show ((1 : Int) : Rat) = 1 from rfl]
    grind
  rcases Int.lt_trichotomy e f with hlt | heq | hgt
  · exact key m1 m2 n1 n2 h hlt
  · subst heq
    have h0 : (2 : Rat) ^ e ≠ 0 := by have := p2_pos e; grind
    have := congrArg (· * ((2 : Rat) ^ e)⁻¹) h
    simp only [Rat.mul_assoc, Rat.mul_inv_cancel _ h0, Rat.mul_one] at this
    rw [this]
  · exact (key n1 n2 m1 m2 h.symm hgt).symm
noncomputable def Ln (x : Rat) : Rat := if h : 0 < x then lgG (Classical.choose (Classical.choose_spec (lg_ex h))) + ((Classical.choose (lg_ex h) : Int) : Rat) * lg2 else 0
theorem Ln_at {m : Rat} (m1 : 3 / 4 ≤ m) (m2 : m ≤ 3 / 2) (e : Int) : Ln (m * 2 ^ e) = lgG m + (e : Rat) * lg2 := by
  have hx : 0 < m * 2 ^ e := Rat.mul_pos (by grind) (p2_pos e)
  unfold Ln
  rw [dif_pos hx]
  obtain ⟨g1, g2, g3⟩ := Classical.choose_spec (Classical.choose_spec (lg_ex hx))
  exact lg_uniq g1 g2 m1 m2 g3.symm
theorem Ln_mid {m : Rat} (m1 : 3 / 4 ≤ m) (m2 : m ≤ 3 / 2) : Ln m = lgG m := by
  have := Ln_at m1 m2 0
  rw [show m * 2 ^ (0 : Int) = m by rw [show (2 : Rat) ^ (0 : Int) = 1 by decide +kernel]; grind, show ((0 : Int) : Rat) = 0 from rfl] at this
  grind
theorem Ln_one : Ln 1 = 0 := by
  rw [Ln_mid (by decide +kernel) (by decide +kernel)]
  decide +kernel
/-- Logarithms of products. -/
theorem lgG_mul {m n : Rat} (m1 : 3 / 4 ≤ m) (m2 : m ≤ 3 / 2) (n1 : 3 / 4 ≤ n) (n2 : n ≤ 3 / 2) : av (Ln (m * n) - lgG m - lgG n) ≤ 8 * eta := by
  have g1 : lgG 1 = 0 := by decide +kernel
  have he : (0 : Rat) ≤ eta := by decide +kernel
  have l0 := Rat.mul_le_mul_of_nonneg_right m1 (show 0 ≤ n by grind)
  have u0 := Rat.mul_le_mul_of_nonneg_right m2 (show 0 ≤ n by grind)
  by_cases c1 : m * n < 3 / 4
  · obtain ⟨t, ht⟩ : ∃ t, n * t = 3 / 4 := ⟨3 / 4 / n, by grind⟩
    have t1 : 3 / 4 ≤ t ∧ t ≤ 1 ∧ m ≤ t := by
      refine ⟨?_, ?_, ?_⟩
      · by_cases h : 3 / 4 ≤ t
        · exact h
        · have := Rat.mul_lt_mul_of_pos_left (show t < 3 / 4 by grind) (show 0 < n by grind)
          have := Rat.mul_le_mul_of_nonneg_left m1 (show 0 ≤ n by grind)
          grind
      · by_cases h : t ≤ 1
        · exact h
        · have := Rat.mul_lt_mul_of_pos_left (show 1 < t by grind) (show 0 < n by grind)
          grind
      · by_cases h : m ≤ t
        · exact h
        · have := Rat.mul_lt_mul_of_pos_left (show t < m by grind) (show 0 < n by grind)
          grind
    obtain ⟨t1, t2, t3⟩ := t1
    have A := lgG_seg (a := t) (b := m) (c := 2 * n) (by grind) (by grind) (by grind) (by grind) (by grind) (by grind) (by grind) (by grind) (by grind)
    have B := lgG_seg (a := 1) (b := t) (c := n) (by decide +kernel) (by decide +kernel) (by grind) (by grind) (by grind) (by grind) (by grind) (by grind) (by grind)
    rw [show 2 * n * t = 3 / 2 by grind] at A
    rw [show n * 1 = n by grind, ht, g1] at B
    have e := Ln_at (m := 2 * n * m) (by grind) (by grind) (-1)
    rw [show 2 * n * m * 2 ^ (-1 : Int) = m * n by rw [show (2 : Rat) ^ (-1 : Int) = 1 / 2 by decide +kernel]; grind] at e
    rw [e, show ((-1 : Int) : Rat) = -1 from rfl]
    have C := av_add_le A B
    unfold lg2
    rw [show lgG (2 * n * m) + -1 * (lgG (3 / 2) - lgG (3 / 4)) - lgG m - lgG n = (lgG (2 * n * m) - lgG (3 / 2)) - (lgG m - lgG t) + ((lgG (3 / 4) - lgG n) - (lgG t - 0)) by grind]
    grind
  · by_cases c2 : 3 / 2 < m * n
    · obtain ⟨t, ht⟩ : ∃ t, n * t = 3 / 2 := ⟨3 / 2 / n, by grind⟩
      have t1 : 1 ≤ t ∧ t ≤ m := by
        refine ⟨?_, ?_⟩
        · by_cases h : 1 ≤ t
          · exact h
          · have := Rat.mul_lt_mul_of_pos_left (show t < 1 by grind) (show 0 < n by grind)
            grind
        · by_cases h : t ≤ m
          · exact h
          · have := Rat.mul_lt_mul_of_pos_left (show m < t by grind) (show 0 < n by grind)
            grind
      obtain ⟨t1, t2⟩ := t1
      have A := lgG_seg (a := t) (b := m) (c := n / 2) (by grind) (by grind) (by grind) (by grind) (by grind) (by grind) (by grind) (by grind) (by grind)
      have B := lgG_seg (a := 1) (b := t) (c := n) (by decide +kernel) (by decide +kernel) (by grind) (by grind) (by grind) (by grind) (by grind) (by grind) (by grind)
      rw [show n / 2 * t = 3 / 4 by grind] at A
      rw [show n * 1 = n by grind, ht, g1] at B
      have e := Ln_at (m := n / 2 * m) (by grind) (by grind) 1
      rw [show n / 2 * m * 2 ^ (1 : Int) = m * n by rw [show (2 : Rat) ^ (1 : Int) = 2 by decide +kernel]; grind] at e
      rw [e, show ((1 : Int) : Rat) = 1 from rfl]
      have C := av_add_le A B
      unfold lg2
      rw [show lgG (n / 2 * m) + 1 * (lgG (3 / 2) - lgG (3 / 4)) - lgG m - lgG n = (lgG (n / 2 * m) - lgG (3 / 4)) - (lgG m - lgG t) + ((lgG (3 / 2) - lgG n) - (lgG t - 0)) by grind]
      grind
    · have A := lgG_seg (a := 1) (b := m) (c := n) (by decide +kernel) (by decide +kernel) (by grind) (by grind) (by grind) (by grind) (by grind) (by grind) (by grind)
      rw [show n * 1 = n by grind, g1, show n * m = m * n by grind] at A
      rw [Ln_mid (by grind) (by grind), show lgG (m * n) - lgG m - lgG n = lgG (m * n) - lgG n - (lgG m - 0) by grind]
      grind
theorem Ln_pow {x : Rat} (hx : 0 < x) (e : Int) : Ln (x * 2 ^ e) = Ln x + (e : Rat) * lg2 := by
  obtain ⟨f, m, m1, m2, rfl⟩ := lg_ex hx
  rw [Rat.mul_assoc, ← p2_add, Ln_at m1 m2, Ln_at m1 m2, Rat.intCast_add]
  grind
theorem Ln_mul {x y : Rat} (hx : 0 < x) (hy : 0 < y) : av (Ln (x * y) - Ln x - Ln y) ≤ 8 * eta := by
  obtain ⟨e, m, m1, m2, rfl⟩ := lg_ex hx
  obtain ⟨f, n, n1, n2, rfl⟩ := lg_ex hy
  have h := lgG_mul m1 m2 n1 n2
  have e1 : m * 2 ^ e * (n * 2 ^ f) = m * n * 2 ^ (e + f) := by rw [p2_add]; grind
  rw [e1, Ln_pow (Rat.mul_pos (by grind) (by grind)), Ln_at m1 m2, Ln_at n1 n2, Rat.intCast_add]
  rw [show Ln (m * n) + ((e : Rat) + (f : Rat)) * lg2 - (lgG m + (e : Rat) * lg2) - (lgG n + (f : Rat) * lg2) = Ln (m * n) - lgG m - lgG n by grind]
  exact h
theorem lg2_lo : (6931471805 : Rat) / 10000000000 ≤ lg2 := by decide +kernel
theorem lg2_hi : lg2 ≤ (6931471806 : Rat) / 10000000000 := by decide +kernel
theorem p2_ge (n : Nat) : (n : Rat) + 1 ≤ 2 ^ (n : Int) := by
  rw [p2_nat]
  have : n + 1 ≤ 2 ^ n := Nat.lt_two_pow_self
  have h : ((n + 1 : Nat) : Rat) ≤ ((2 ^ n : Nat) : Rat) := by exact_mod_cast this
  rwa [Rat.natCast_add, show ((1 : Nat) : Rat) = 1 from rfl] at h
/-- The logarithm lies below x - 1. -/
theorem Ln_le {x : Rat} (hx : 0 < x) : Ln x ≤ x - 1 + 2 * eta := by
  obtain ⟨e, m, m1, m2, rfl⟩ := lg_ex hx
  rw [Ln_at m1 m2]
  have g1 : lgG 1 = 0 := by decide +kernel
  have he : (0 : Rat) ≤ eta := by decide +kernel
  have T := lgG_tan (a := 1) (b := m) (by decide +kernel) (by decide +kernel) m1 m2
  have l1 := lg2_lo
  have l2 := lg2_hi
  rw [g1] at T
  have T : lgG m ≤ m - 1 + 2 * eta := by grind
  rcases (show e = 0 ∨ (∃ n : Nat, e = (n : Int) + 1) ∨ e = -1 ∨ e = -2 ∨ (∃ n : Nat, e = -((n : Int) + 3)) by
    rcases Int.lt_trichotomy e 0 with h | h | h
    · by_cases h1 : e = -1
      · exact .inr (.inr (.inl h1))
      · by_cases h2 : e = -2
        · exact .inr (.inr (.inr (.inl h2)))
        · exact .inr (.inr (.inr (.inr ⟨(-e - 3).toNat, by omega⟩)))
    · exact .inl h
    · exact .inr (.inl ⟨(e - 1).toNat, by omega⟩)) with rfl | ⟨n, rfl⟩ | rfl | rfl | ⟨n, rfl⟩
  · rw [show (2 : Rat) ^ (0 : Int) = 1 by decide +kernel, show ((0 : Int) : Rat) = 0 from rfl]
    grind
  · rw [p2_succ, Rat.intCast_add, Rat.intCast_natCast, show ((1 : Int) : Rat) = 1 from rfl]
    have hp := p2_ge n
    have hn : (0 : Rat) ≤ (n : Rat) := by exact_mod_cast Nat.zero_le n
    generalize (2 : Rat) ^ (n : Int) = P at *
    generalize (n : Rat) = k at *
    have k1 := Rat.mul_le_mul_of_nonneg_left l2 (show 0 ≤ k + 1 by grind)
    have k2 := Rat.mul_le_mul_of_nonneg_right m1 (show 0 ≤ 2 * P - 1 by grind)
    grind
  · rw [show (2 : Rat) ^ (-1 : Int) = 1 / 2 by decide +kernel, show ((-1 : Int) : Rat) = -1 from rfl]
    have T2 := lgG_tan (a := 3 / 2) (b := m) (by decide +kernel) (by decide +kernel) m1 m2
    have g2 : lgG (3 / 2) ≤ 41 / 100 := by decide +kernel
    grind
  · rw [show (2 : Rat) ^ (-2 : Int) = 1 / 4 by decide +kernel, show ((-2 : Int) : Rat) = -2 from rfl]
    grind
  · have hp := p2_pos (-((n : Int) + 3))
    have hn : (0 : Rat) ≤ (n : Rat) := by exact_mod_cast Nat.zero_le n
    rw [Rat.intCast_neg, Rat.intCast_add, Rat.intCast_natCast, show ((3 : Int) : Rat) = 3 from rfl]
    generalize (2 : Rat) ^ (-((n : Int) + 3)) = P at *
    generalize (n : Rat) = k at *
    have k1 := Rat.mul_le_mul_of_nonneg_left l1 (show 0 ≤ k + 3 by grind)
    have k2 := Rat.mul_nonneg (show 0 ≤ m by grind) (Rat.le_of_lt hp)
    grind
theorem Ln_mono {x y : Rat} (hx : 0 < x) (h : x ≤ y) : Ln x ≤ Ln y + 10 * eta := by
  obtain ⟨z, hz⟩ : ∃ z, y * z = x := ⟨x / y, by grind⟩
  have hy : 0 < y := by grind
  have z0 : 0 < z := by
    by_cases h0 : 0 < z
    · exact h0
    · have := Rat.mul_le_mul_of_nonneg_left (show z ≤ 0 by grind) (Rat.le_of_lt hy)
      grind
  have z1 : z ≤ 1 := by
    by_cases h0 : z ≤ 1
    · exact h0
    · have := Rat.mul_lt_mul_of_pos_left (show 1 < z by grind) hy
      grind
  have A := Ln_mul hy z0
  rw [hz] at A
  have B := Ln_le z0
  have C : Ln x - Ln y - Ln z ≤ 8 * eta := by
    have : ∀ v : Rat, v ≤ av v := by intro v; unfold av; split <;> grind
    exact Rat.le_trans (this _) A
  grind

end Go.Proofs.Ytimhljcebeiofaa
