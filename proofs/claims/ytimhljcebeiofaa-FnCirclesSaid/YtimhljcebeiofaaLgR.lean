/- A logarithm in exact fractions. Plain: no program. -/
import Derived.Test.YtimhljcebeiofaaErr
namespace Go.Proofs.Ytimhljcebeiofaa
set_option linter.unusedSimpArgs false
set_option linter.unusedVariables false
open Ieee

/-- The remainder of a power behind its tangent. -/
def pwD (t u : Rat) (m : Nat) : Rat := u ^ (m + 1) - t ^ (m + 1) - ((m + 1 : Nat) : Rat) * t ^ m * (u - t)
theorem pwD_succ (t u : Rat) (m : Nat) : pwD t u (m + 1) = u * pwD t u m + ((m + 1 : Nat) : Rat) * t ^ m * ((u - t) * (u - t)) := by
  unfold pwD
  rw [Rat.pow_succ u (m + 1), Rat.pow_succ t (m + 1), Rat.pow_succ t m, Rat.natCast_add (m + 1) 1]
  generalize t ^ m = a
  generalize u ^ (m + 1) = b
  generalize ((m + 1 : Nat) : Rat) = c
  simp only [show ((1 : Nat) : Rat) = 1 from rfl]
  grind
theorem av_mul_le {a b A B : Rat} (ha : av a ≤ A) (hb : av b ≤ B) : av (a * b) ≤ A * B := by
  rw [av_mul]
  exact Rat.le_trans (Rat.mul_le_mul_of_nonneg_right ha (av_nonneg _)) (Rat.mul_le_mul_of_nonneg_left hb (Rat.le_trans (av_nonneg _) ha))
theorem av_add_le {a b A B : Rat} (ha : av a ≤ A) (hb : av b ≤ B) : av (a + b) ≤ A + B := by
  have := av_add a b
  grind
theorem av_sub_le {a b A B : Rat} (ha : av a ≤ A) (hb : av b ≤ B) : av (a - b) ≤ A + B := by
  rw [Rat.sub_eq_add_neg]
  exact av_add_le ha (by rw [av_neg]; exact hb)
theorem sq_nonneg (d : Rat) : 0 ≤ d * d := by
  by_cases h : 0 ≤ d
  · exact Rat.mul_nonneg h h
  · have := Rat.mul_nonneg (show 0 ≤ -d by grind) (show 0 ≤ -d by grind)
    grind
theorem av_sq (d : Rat) : av (d * d) = d * d := av_of_nonneg (sq_nonneg d)
/-- Powers of small numbers fall faster than their exponents grow. -/
theorem pw_small {t : Rat} (h : av t ≤ 1 / 5) : ∀ m : Nat, ((m + 2 : Nat) : Rat) * av (t ^ (m + 1)) ≤ 2 / 5 := by
  intro m
  induction m with
  | zero =>
    rw [show t ^ (0 + 1) = t by rw [Rat.pow_succ]; grind]
    have : ((0 + 2 : Nat) : Rat) = 2 := rfl
    grind
  | succ m ih =>
    rw [Rat.pow_succ, av_mul]
    have h0 := av_nonneg (t ^ (m + 1))
    have hm : (0 : Rat) ≤ (m : Rat) := by exact_mod_cast Nat.zero_le m
    rw [show ((m + 1 + 2 : Nat) : Rat) = (m : Rat) + 3 by rw [show m + 1 + 2 = m + 3 by omega, Rat.natCast_add]; rfl]
    rw [show ((m + 2 : Nat) : Rat) = (m : Rat) + 2 by rw [Rat.natCast_add]; rfl] at ih
    generalize av (t ^ (m + 1)) = a at *
    have h1 := Rat.mul_le_mul_of_nonneg_left h h0
    have h2 : 0 ≤ (m : Rat) * a := Rat.mul_nonneg hm h0
    have h3 := Rat.mul_le_mul_of_nonneg_left h1 (show (0 : Rat) ≤ (m : Rat) + 3 by grind)
    generalize (m : Rat) = k at *
    generalize av t = b at *
    grind
theorem pwD_le {t u : Rat} (ht : av t ≤ 1 / 5) (hu : av u ≤ 1 / 5) : ∀ m : Nat, av (pwD t u m) ≤ (u - t) * (u - t) := by
  intro m
  have hd := sq_nonneg (u - t)
  match m with
  | 0 =>
    have : pwD t u 0 = 0 := by unfold pwD; rw [Rat.pow_succ, Rat.pow_succ, Rat.pow_zero, Rat.pow_zero]; have : ((0 + 1 : Nat) : Rat) = 1 := rfl; grind
    rw [this]; exact hd
  | 1 =>
    have : pwD t u 1 = (u - t) * (u - t) := by
      rw [pwD_succ]
      have : pwD t u 0 = 0 := by unfold pwD; rw [Rat.pow_succ, Rat.pow_succ, Rat.pow_zero, Rat.pow_zero]; have : ((0 + 1 : Nat) : Rat) = 1 := rfl; grind
      rw [this, Rat.pow_zero]
      have : ((0 + 1 : Nat) : Rat) = 1 := rfl
      grind
    rw [this, av_sq]; exact Rat.le_refl
  | m + 2 =>
    have ih := pwD_le ht hu (m + 1)
    rw [pwD_succ]
    have h1 := av_mul_le hu ih
    have h2 := pw_small ht m
    have h3 : av (((m + 1 + 1 : Nat) : Rat) * t ^ (m + 1)) ≤ 2 / 5 := by
      rw [av_mul, av_of_nonneg (by exact_mod_cast Nat.zero_le _)]
      exact h2
    have h4 := av_mul_le h3 (show av ((u - t) * (u - t)) ≤ (u - t) * (u - t) by rw [av_sq]; exact Rat.le_refl)
    have h5 := av_add_le h1 h4
    generalize (u - t) * (u - t) = d at *
    grind
/-- The first n terms of the row of the inverse hyperbolic tangent, and of its slope. -/
def atT (s : Rat) : Nat → Rat
  | 0 => 0
  | n + 1 => atT s n + s ^ (2 * n + 1) / ((2 * n + 1 : Nat) : Rat)
def atD (s : Rat) : Nat → Rat
  | 0 => 0
  | n + 1 => atD s n + s ^ (2 * n)
theorem atD_eq (s : Rat) : ∀ n, atD s n * (1 - s * s) = 1 - s ^ (2 * n) := by
  intro n
  induction n with
  | zero => simp [atD, Rat.pow_zero]; grind
  | succ n ih =>
    have e : s ^ (2 * (n + 1)) = s ^ (2 * n) * (s * s) := by rw [show 2 * (n + 1) = 2 * n + 1 + 1 by omega, Rat.pow_succ, Rat.pow_succ, Rat.mul_assoc]
    rw [e]
    unfold atD
    generalize s ^ (2 * n) = p at *
    generalize s * s = q at *
    generalize atD s n = a at *
    grind
theorem atT_step {t u : Rat} (ht : av t ≤ 1 / 5) (hu : av u ≤ 1 / 5) : ∀ n : Nat, av (atT u n - atT t n - atD t n * (u - t)) ≤ (n : Rat) * ((u - t) * (u - t)) := by
  intro n
  induction n with
  | zero => simp only [atT, atD]; rw [show ((0 : Rat) - 0 - 0 * (u - t)) = 0 by grind, show ((0 : Nat) : Rat) * ((u - t) * (u - t)) = 0 by rw [show ((0 : Nat) : Rat) = 0 from rfl]; grind]; decide +kernel
  | succ n ih =>
    have h1 := pwD_le ht hu (2 * n)
    have hc : ((2 * n + 1 : Nat) : Rat) ≠ 0 := by
      intro h
      have : (0 : Rat) < ((2 * n + 1 : Nat) : Rat) := by exact_mod_cast Nat.succ_pos _
      rw [h] at this; exact absurd this (by decide)
    have hc1 : (1 : Rat) ≤ ((2 * n + 1 : Nat) : Rat) := by exact_mod_cast Nat.succ_le_succ (Nat.zero_le (2 * n))
    have e : pwD t u (2 * n) / ((2 * n + 1 : Nat) : Rat) = u ^ (2 * n + 1) / ((2 * n + 1 : Nat) : Rat) - t ^ (2 * n + 1) / ((2 * n + 1 : Nat) : Rat) - t ^ (2 * n) * (u - t) := by
      unfold pwD
      generalize ((2 * n + 1 : Nat) : Rat) = c at *
      grind
    have h2 : av (pwD t u (2 * n) / ((2 * n + 1 : Nat) : Rat)) ≤ (u - t) * (u - t) := av_div_le (by rw [av_of_nonneg (by grind)]; exact hc1) h1
    rw [e] at h2
    have h3 := av_add_le ih h2
    rw [Rat.natCast_add n 1, show ((1 : Nat) : Rat) = 1 from rfl]
    have e2 : atT u (n + 1) - atT t (n + 1) - atD t (n + 1) * (u - t) = atT u n - atT t n - atD t n * (u - t) + (u ^ (2 * n + 1) / ((2 * n + 1 : Nat) : Rat) - t ^ (2 * n + 1) / ((2 * n + 1 : Nat) : Rat) - t ^ (2 * n) * (u - t)) := by
      simp only [atT, atD]
      grind
    rw [e2]
    grind
/-- The logarithm between 3/4 and 3/2. -/
def lgS (m : Rat) : Rat := (m - 1) / (m + 1)
def lgG (m : Rat) : Rat := 2 * atT (lgS m) 13
def lg2 : Rat := lgG (3 / 2) - lgG (3 / 4)
def eta : Rat := 1 / 100000000000000000
theorem lgS_eq {m : Rat} (h : 0 < m + 1) : lgS m * (m + 1) = m - 1 := by
  unfold lgS
  exact Rat.div_mul_cancel (by grind)
theorem lgS_le {m : Rat} (h1 : 3 / 4 ≤ m) (h2 : m ≤ 3 / 2) : av (lgS m) ≤ 1 / 5 := by
  have e := lgS_eq (m := m) (by grind)
  generalize lgS m = s at *
  refine av_le ?_ ?_
  · by_cases h : s ≤ 1 / 5
    · exact h
    · have := Rat.mul_lt_mul_of_pos_right (show 1 / 5 < s by grind) (show 0 < m + 1 by grind)
      grind
  · by_cases h : -(1 / 5) ≤ s
    · exact h
    · have := Rat.mul_lt_mul_of_pos_right (show s < -(1 / 5) by grind) (show 0 < m + 1 by grind)
      grind
theorem pw_le {s c : Rat} (h : av s ≤ c) (hc : 0 ≤ c) : ∀ n : Nat, av (s ^ n) ≤ c ^ n := by
  intro n
  induction n with
  | zero => rw [Rat.pow_zero, Rat.pow_zero]; decide +kernel
  | succ n ih => rw [Rat.pow_succ, Rat.pow_succ]; exact av_mul_le ih h
theorem inv_le {m c x : Rat} (h : m * x = 1) (hc : 0 < c) (h1 : 1 ≤ m * c) (hm : 0 < m) : 0 ≤ x ∧ x ≤ c := by
  have hx : 0 ≤ x := by
    by_cases h0 : 0 ≤ x
    · exact h0
    · have := Rat.mul_lt_mul_of_pos_left (show x < 0 by grind) hm
      grind
  refine ⟨hx, ?_⟩
  by_cases h2 : x ≤ c
  · exact h2
  · have := Rat.mul_lt_mul_of_pos_left (show c < x by grind) hm
    grind
/-- The slope of the logarithm. -/
theorem lgG_step {m n : Rat} (h1 : 3 / 4 ≤ m) (h2 : m ≤ 3 / 2) (h3 : 3 / 4 ≤ n) (h4 : n ≤ 3 / 2) : av (lgG n - lgG m - (n - m) / m) ≤ 27 * ((n - m) * (n - m)) + eta * av (n - m) := by
  have hs := lgS_le h1 h2
  have ht := lgS_le h3 h4
  have es := lgS_eq (m := m) (by grind)
  have et := lgS_eq (m := n) (by grind)
  have A := atT_step hs ht 13
  have B := atD_eq (lgS m) 13
  have P := pw_le hs (by decide +kernel) (2 * 13)
  have P2 : ((1 : Rat) / 5) ^ (2 * 13) ≤ eta / 2 := by decide +kernel
  unfold lgG
  generalize atT (lgS m) 13 = gm at *
  generalize atT (lgS n) 13 = gn at *
  generalize atD (lgS m) 13 = D at *
  generalize lgS m ^ (2 * 13) = p at *
  generalize lgS m = s at *
  generalize lgS n = t at *
  obtain ⟨x, hx⟩ : ∃ x, m * x = 1 := ⟨1 / m, by grind⟩
  obtain ⟨y, hy⟩ : ∃ y, (n + 1) * y = 1 := ⟨1 / (n + 1), by grind⟩
  obtain ⟨z, hz⟩ : ∃ z, (m + 1) * z = 1 := ⟨1 / (m + 1), by grind⟩
  obtain ⟨x0, x1⟩ := inv_le hx (c := 4 / 3) (by decide +kernel) (by grind) (by grind)
  obtain ⟨y0, y1⟩ := inv_le hy (c := 4 / 7) (by decide +kernel) (by grind) (by grind)
  obtain ⟨z0, z1⟩ := inv_le hz (c := 4 / 7) (by decide +kernel) (by grind) (by grind)
  obtain ⟨d, hd⟩ : ∃ d, d = n - m := ⟨_, rfl⟩
  rw [← hd]
  have e1 : d / m = d * x := by grind
  rw [e1]
  have s1 : s = (m - 1) * z := by grind
  have t1 : t = (n - 1) * y := by grind
  have dst : t - s = 2 * d * y * z := by
    have : n = m + d := by grind
    subst this
    grind
  have e2 : D * 4 = (1 - p) * ((m + 1) * (m + 1)) * x := by
    have : (1 - s * s) * ((m + 1) * (m + 1)) = 4 * m := by grind
    grind
  have e3 : 2 * (D * (t - s)) = (1 - p) * (m + 1) * x * d * y := by
    rw [dst]; grind
  have e4 : 2 * (D * (t - s)) - d * x = -(d * d * (x * y)) - p * (d * ((m + 1) * (x * y))) := by
    rw [e3]
    have : n = m + d := by grind
    subst this
    grind
  have xy : av (x * y) ≤ 16 / 21 := by
    have := av_mul_le (a := x) (b := y) (A := 4 / 3) (B := 4 / 7) (by rw [av_of_nonneg x0]; exact x1) (by rw [av_of_nonneg y0]; exact y1)
    grind
  have mxy : av ((m + 1) * (x * y)) ≤ 2 := by
    have := av_mul_le (a := m + 1) (b := x * y) (A := 5 / 2) (by rw [av_of_nonneg (by grind)]; grind) xy
    grind
  have b1 : av (d * d * (x * y)) ≤ d * d * (16 / 21) := av_mul_le (by rw [av_sq]; exact Rat.le_refl) xy
  have b2 : av (p * (d * ((m + 1) * (x * y)))) ≤ eta / 2 * (av d * 2) := av_mul_le (by grind) (av_mul_le Rat.le_refl mxy)
  have b3 : (t - s) * (t - s) ≤ d * d * (1024 / 2401) := by
    rw [dst]
    have yz : av (y * z) ≤ 16 / 49 := by
      have := av_mul_le (a := y) (b := z) (A := 4 / 7) (B := 4 / 7) (by rw [av_of_nonneg y0]; exact y1) (by rw [av_of_nonneg z0]; exact z1)
      grind
    have yz2 : av ((y * z) * (y * z)) ≤ 16 / 49 * (16 / 49) := av_mul_le yz yz
    rw [av_sq] at yz2
    have := Rat.mul_le_mul_of_nonneg_left yz2 (sq_nonneg d)
    grind
  have C := av_sub_le (av_add_le (show av (2 * (gn - gm - D * (t - s))) ≤ 2 * (((13 : Nat) : Rat) * ((t - s) * (t - s))) by
      have := av_mul_le (a := 2) (A := 2) (by decide +kernel) A
      exact this) (show av (-(d * d * (x * y))) ≤ d * d * (16 / 21) by rw [av_neg]; exact b1)) b2
  have e5 : 2 * gn - 2 * gm - d * x = 2 * (gn - gm - D * (t - s)) + -(d * d * (x * y)) - p * (d * ((m + 1) * (x * y))) := by grind
  rw [e5]
  have h13 : ((13 : Nat) : Rat) = 13 := rfl
  rw [h13] at C
  have hdd := sq_nonneg d
  refine Rat.le_trans C ?_
  generalize av d = ad at *
  generalize eta = e at *
  grind
/-- A sum of small steps. -/
theorem tele {f : Nat → Rat} {e : Rat} {M : Nat} (h : ∀ i, i < M → av (f (i + 1) - f i) ≤ e) : ∀ i, i ≤ M → av (f i - f 0) ≤ (i : Rat) * e := by
  intro i
  induction i with
  | zero => intro _; rw [show f 0 - f 0 = 0 by grind, show ((0 : Nat) : Rat) * e = 0 by rw [show ((0 : Nat) : Rat) = 0 from rfl]; grind]; decide +kernel
  | succ i ih =>
    intro hi
    have h1 := ih (by omega)
    have h2 := h i (by omega)
    have h3 := av_add_le h1 h2
    rw [show f i - f 0 + (f (i + 1) - f i) = f (i + 1) - f 0 by grind] at h3
    rw [Rat.natCast_add, show ((1 : Nat) : Rat) = 1 from rfl]
    grind
def bigM : Nat := 100000000000000000000000
/-- The points between a and b. -/
def ptA (a b : Rat) (i : Nat) : Rat := a + (i : Rat) * ((b - a) / (bigM : Rat))
theorem ptA_zero (a b : Rat) : ptA a b 0 = a := by unfold ptA; rw [show ((0 : Nat) : Rat) = 0 from rfl]; grind
theorem ptA_end (a b : Rat) : ptA a b bigM = b := by
  unfold ptA
  have : (bigM : Rat) ≠ 0 := by decide +kernel
  generalize (bigM : Rat) = M at *
  grind
theorem ptA_succ (a b : Rat) (i : Nat) : ptA a b (i + 1) = ptA a b i + (b - a) / (bigM : Rat) := by
  unfold ptA; rw [Rat.natCast_add, show ((1 : Nat) : Rat) = 1 from rfl]; grind
theorem ptA_in {a b lo hi : Rat} (a1 : lo ≤ a) (a2 : a ≤ hi) (b1 : lo ≤ b) (b2 : b ≤ hi) {i : Nat} (h : i ≤ bigM) : lo ≤ ptA a b i ∧ ptA a b i ≤ hi := by
  have hM : (0 : Rat) < (bigM : Rat) := by decide +kernel
  have hi0 : (0 : Rat) ≤ (i : Rat) := by exact_mod_cast Nat.zero_le i
  have hiM : (i : Rat) ≤ (bigM : Rat) := by exact_mod_cast h
  unfold ptA
  generalize (bigM : Rat) = M at *
  generalize (i : Rat) = k at *
  obtain ⟨q, hq⟩ : ∃ q, q * M = k := ⟨k / M, Rat.div_mul_cancel (by grind)⟩
  have e : k * ((b - a) / M) = q * (b - a) := by grind
  rw [e]
  have q0 : 0 ≤ q := by
    by_cases h0 : 0 ≤ q
    · exact h0
    · have := Rat.mul_lt_mul_of_pos_right (show q < 0 by grind) hM
      grind
  have q1 : q ≤ 1 := by
    by_cases h0 : q ≤ 1
    · exact h0
    · have := Rat.mul_lt_mul_of_pos_right (show 1 < q by grind) hM
      grind
  have m1 := Rat.mul_le_mul_of_nonneg_left b1 q0
  have m2 := Rat.mul_le_mul_of_nonneg_left b2 q0
  have m3 := Rat.mul_le_mul_of_nonneg_left a1 (show 0 ≤ 1 - q by grind)
  have m4 := Rat.mul_le_mul_of_nonneg_left a2 (show 0 ≤ 1 - q by grind)
  constructor <;> grind
theorem small_step {d : Rat} (hd : av d ≤ 3 / 4) : ∃ h, h = d / (bigM : Rat) ∧ av h ≤ 1 / (bigM : Rat) ∧ h * h ≤ 1 / ((bigM : Rat) * (bigM : Rat)) := by
  have hM : (0 : Rat) < (bigM : Rat) := by decide +kernel
  refine ⟨_, rfl, ?_, ?_⟩
  · have e : d / (bigM : Rat) = d * (1 / (bigM : Rat)) := by generalize (bigM : Rat) = M at *; grind
    rw [e]
    have := av_mul_le (b := 1 / (bigM : Rat)) (B := 1 / (bigM : Rat)) (show av d ≤ 1 by grind) (by decide +kernel)
    grind
  · have e : d / (bigM : Rat) * (d / (bigM : Rat)) = d * d * (1 / ((bigM : Rat) * (bigM : Rat))) := by generalize (bigM : Rat) = M at *; grind
    rw [e]
    have := av_mul_le (a := d * d) (A := 1) (b := 1 / ((bigM : Rat) * (bigM : Rat))) (B := 1 / ((bigM : Rat) * (bigM : Rat))) (by have := av_mul_le hd hd; grind) (by decide +kernel)
    rw [av_of_nonneg (Rat.mul_nonneg (sq_nonneg d) (by decide +kernel))] at this
    grind
/-- The logarithm grows from ca to cb as from a to b. -/
theorem lgG_seg {a b c : Rat} (a1 : 3 / 4 ≤ a) (a2 : a ≤ 3 / 2) (b1 : 3 / 4 ≤ b) (b2 : b ≤ 3 / 2) (c0 : 0 < c) (ca1 : 3 / 4 ≤ c * a) (ca2 : c * a ≤ 3 / 2) (cb1 : 3 / 4 ≤ c * b) (cb2 : c * b ≤ 3 / 2) :
    av ((lgG (c * b) - lgG (c * a)) - (lgG b - lgG a)) ≤ 4 * eta := by
  have c2 : c ≤ 2 := by
    by_cases h : c ≤ 2
    · exact h
    · have := Rat.mul_lt_mul_of_pos_right (show 2 < c by grind) (show 0 < a by grind)
      grind
  obtain ⟨h, hh, g1, g2⟩ := small_step (d := b - a) (av_le (by grind) (by grind))
  have key : ∀ i, i < bigM → av ((lgG (c * ptA a b (i + 1)) - lgG (ptA a b (i + 1))) - (lgG (c * ptA a b i) - lgG (ptA a b i))) ≤ 135 * (1 / ((bigM : Rat) * (bigM : Rat))) + 3 * eta * (1 / (bigM : Rat)) := by
    intro i hi
    obtain ⟨p1, p2⟩ := ptA_in a1 a2 b1 b2 (i := i) (by omega)
    obtain ⟨q1, q2⟩ := ptA_in a1 a2 b1 b2 (i := i + 1) (by omega)
    have hc : ∀ j, c * ptA a b j = ptA (c * a) (c * b) j := by intro j; unfold ptA; generalize (bigM : Rat) = M; grind
    obtain ⟨r1, r2⟩ := ptA_in ca1 ca2 cb1 cb2 (i := i) (by omega)
    obtain ⟨s1, s2⟩ := ptA_in ca1 ca2 cb1 cb2 (i := i + 1) (by omega)
    rw [← hc] at r1 r2 s1 s2
    have A := lgG_step p1 p2 q1 q2
    have B := lgG_step r1 r2 s1 s2
    have e := ptA_succ a b i
    rw [← hh] at e
    rw [e] at A B ⊢
    generalize ptA a b i = p at *
    rw [show p + h - p = h by grind] at A
    rw [show c * (p + h) - c * p = c * h by grind] at B
    have e1 : c * h / (c * p) = h / p := by grind
    rw [e1] at B
    have C := av_sub_le B A
    rw [show (lgG (c * (p + h)) - lgG (c * p) - h / p) - (lgG (p + h) - lgG p - h / p) = (lgG (c * (p + h)) - lgG (p + h)) - (lgG (c * p) - lgG p) by grind] at C
    refine Rat.le_trans C ?_
    have d1 : av (c * h) ≤ 2 * (1 / (bigM : Rat)) := av_mul_le (by rw [av_of_nonneg (by grind)]; exact c2) g1
    have d2 : c * h * (c * h) ≤ 4 * (1 / ((bigM : Rat) * (bigM : Rat))) := by
      have c4 : c * c ≤ 4 := by
        have := av_mul_le (a := c) (b := c) (A := 2) (B := 2) (by rw [av_of_nonneg (by grind)]; exact c2) (by rw [av_of_nonneg (by grind)]; exact c2)
        rw [av_sq] at this; grind
      have k1 := Rat.mul_le_mul_of_nonneg_right c4 (sq_nonneg h)
      grind
    have he : 0 ≤ eta := by decide +kernel
    have k1 := Rat.mul_le_mul_of_nonneg_left g1 he
    have k2 := Rat.mul_le_mul_of_nonneg_left d1 he
    generalize 1 / ((bigM : Rat) * (bigM : Rat)) = M2 at *
    generalize 1 / (bigM : Rat) = M1 at *
    grind
  have T := tele (f := fun i => lgG (c * ptA a b i) - lgG (ptA a b i)) key bigM (Nat.le_refl _)
  simp only [ptA_zero, ptA_end] at T
  rw [show lgG (c * b) - lgG b - (lgG (c * a) - lgG a) = (lgG (c * b) - lgG (c * a)) - (lgG b - lgG a) by grind] at T
  refine Rat.le_trans T ?_
  decide +kernel
/-- The logarithm lies below its tangents. -/
theorem lgG_tan {a b : Rat} (a1 : 3 / 4 ≤ a) (a2 : a ≤ 3 / 2) (b1 : 3 / 4 ≤ b) (b2 : b ≤ 3 / 2) : lgG b - lgG a ≤ (b - a) / a + 2 * eta := by
  obtain ⟨h, hh, g1, g2⟩ := small_step (d := b - a) (av_le (by grind) (by grind))
  have hM : (0 : Rat) < (bigM : Rat) := by decide +kernel
  have key : ∀ i, i ≤ bigM → lgG (ptA a b i) - lgG a ≤ (ptA a b i - a) / a + (i : Rat) * (27 * (1 / ((bigM : Rat) * (bigM : Rat))) + eta * (1 / (bigM : Rat))) := by
    intro i
    induction i with
    | zero =>
      intro _
      rw [ptA_zero, show ((0 : Nat) : Rat) = 0 from rfl]
      generalize 27 * (1 / ((bigM : Rat) * (bigM : Rat))) + eta * (1 / (bigM : Rat)) = z
      grind
    | succ i ih =>
      intro hi
      have ih := ih (by omega)
      obtain ⟨p1, p2⟩ := ptA_in a1 a2 b1 b2 (i := i) (by omega)
      obtain ⟨q1, q2⟩ := ptA_in a1 a2 b1 b2 (i := i + 1) (by omega)
      have A := lgG_step p1 p2 q1 q2
      have e := ptA_succ a b i
      rw [← hh] at e
      have hp : ptA a b i = a + (i : Rat) * h := by unfold ptA; rw [hh]
      have hi0 : (0 : Rat) ≤ (i : Rat) := by exact_mod_cast Nat.zero_le i
      have hpa : h / ptA a b i ≤ h / a := by
        obtain ⟨x, hx⟩ : ∃ x, ptA a b i * x = 1 := ⟨1 / ptA a b i, by grind⟩
        obtain ⟨y, hy⟩ : ∃ y, a * y = 1 := ⟨1 / a, by grind⟩
        have x0 := (inv_le hx (c := 4 / 3) (by decide +kernel) (by grind) (by grind)).1
        have y0 := (inv_le hy (c := 4 / 3) (by decide +kernel) (by grind) (by grind)).1
        rw [show h / ptA a b i = h * x by grind, show h / a = h * y by grind]
        rw [hp] at hx
        have k := Rat.mul_nonneg (Rat.mul_nonneg (Rat.mul_nonneg hi0 (sq_nonneg h)) x0) y0
        have : h * y - h * x = (i : Rat) * (h * h) * x * y := by
          generalize (i : Rat) = k at *
          grind
        grind
      rw [e] at A ⊢
      rw [Rat.natCast_add, show ((1 : Nat) : Rat) = 1 from rfl]
      generalize ptA a b i = p at *
      rw [show p + h - p = h by grind] at A
      have he : 0 ≤ eta := by decide +kernel
      have k1 := Rat.mul_le_mul_of_nonneg_left g1 he
      have A2 : lgG (p + h) - lgG p - h / p ≤ 27 * (h * h) + eta * av h := by
        have : ∀ v : Rat, v ≤ av v := by intro v; unfold av; split <;> grind
        exact Rat.le_trans (this _) A
      have e2 : (p + h - a) / a = (p - a) / a + h / a := by grind
      rw [e2]
      generalize 1 / ((bigM : Rat) * (bigM : Rat)) = M2 at *
      generalize 1 / (bigM : Rat) = M1 at *
      generalize (i : Rat) = k at *
      grind
  have T := key bigM (Nat.le_refl _)
  rw [ptA_end] at T
  have : (bigM : Rat) * (27 * (1 / ((bigM : Rat) * (bigM : Rat))) + eta * (1 / (bigM : Rat))) ≤ 2 * eta := by decide +kernel
  grind

end Go.Proofs.Ytimhljcebeiofaa
