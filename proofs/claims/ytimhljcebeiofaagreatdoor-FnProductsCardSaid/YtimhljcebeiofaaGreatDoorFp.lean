/- Binary floating point as exact numbers: rounding to the nearest rung, sums, products, quotients, order. Plain: no program. -/
import Derived.Laws.FloatArith
namespace Go.Proofs.YtimhljcebeiofaaGreatDoor
set_option linter.unusedSimpArgs false
set_option linter.unusedVariables false
open Ieee

/-- The value 'm * 2 ^ p'. -/
def pv (m : Nat) (p : Int) : Rat := (m : Rat) * 2 ^ p
theorem two_ne : (2 : Rat) ≠ 0 := by decide
theorem p2_pos (p : Int) : (0 : Rat) < 2 ^ p := Rat.zpow_pos (by decide)
theorem p2_succ (p : Int) : (2 : Rat) ^ (p + 1) = 2 * 2 ^ p := by rw [Rat.zpow_add two_ne, Rat.zpow_one, Rat.mul_comm]
theorem p2_add (p q : Int) : (2 : Rat) ^ (p + q) = 2 ^ p * 2 ^ q := Rat.zpow_add two_ne p q
theorem p2_nat (n : Nat) : (2 : Rat) ^ (n : Int) = ((2 ^ n : Nat) : Rat) := by
  rw [Rat.zpow_natCast]; exact_mod_cast (Rat.natCast_pow 2 n).symm
theorem pv_nonneg (m : Nat) (p : Int) : 0 ≤ pv m p := Rat.mul_nonneg (by exact_mod_cast Nat.zero_le m) (Rat.le_of_lt (p2_pos p))
theorem pv_le {m n : Nat} (p : Int) (h : m ≤ n) : pv m p ≤ pv n p := Rat.mul_le_mul_of_nonneg_right (by exact_mod_cast h) (Rat.le_of_lt (p2_pos p))
theorem pv_lt {m n : Nat} (p : Int) (h : m < n) : pv m p < pv n p := Rat.mul_lt_mul_of_pos_right (by exact_mod_cast h) (p2_pos p)
theorem pv_le_iff {m n : Nat} (p : Int) : pv m p ≤ pv n p ↔ m ≤ n := by
  refine ⟨fun h => ?_, pv_le p⟩
  by_cases hh : m ≤ n
  · exact hh
  · exact absurd (pv_lt p (show n < m by omega)) (Rat.not_lt.2 h)
theorem pv_lt_iff {m n : Nat} (p : Int) : pv m p < pv n p ↔ m < n := by
  refine ⟨fun h => ?_, pv_lt p⟩
  by_cases hh : m < n
  · exact hh
  · exact absurd (pv_le p (show n ≤ m by omega)) (Rat.not_le.2 h)
theorem pv_inj {m n : Nat} (p : Int) (h : pv m p = pv n p) : m = n := by
  have h1 := (pv_le_iff (m := m) (n := n) p).1 (by rw [h]; exact Rat.le_refl)
  have h2 := (pv_le_iff (m := n) (n := m) p).1 (by rw [h]; exact Rat.le_refl)
  omega
theorem pv_add (m n : Nat) (p : Int) : pv (m + n) p = pv m p + pv n p := by unfold pv; rw [Rat.natCast_add, Rat.add_mul]
theorem pv_shift (m k : Nat) (p : Int) : pv (m * 2 ^ k) p = pv m (p + k) := by
  unfold pv; rw [Rat.natCast_mul, p2_add, ← p2_nat, Rat.mul_assoc, Rat.mul_comm (2 ^ (k : Int))]
theorem pv_mul (m n : Nat) (p q : Int) : pv m p * pv n q = pv (m * n) (p + q) := by
  unfold pv; rw [Rat.natCast_mul, p2_add]; grind
theorem pv_zero (p : Int) : pv 0 p = 0 := by unfold pv; simp
theorem pv_pos {m : Nat} (p : Int) (h : m ≠ 0) : 0 < pv m p := by have := pv_lt p (show 0 < m by omega); rwa [pv_zero] at this

/-- What a rung stands for. -/
def rv (f : Format) (r : Nat) : Rat := if r < f.binade then pv r f.leastPlace else pv (f.binade + r % f.binade) (f.leastPlace + (r / f.binade - 1 : Nat))
theorem binade_pos (f : Format) : 0 < f.binade := Nat.two_pow_pos _

theorem rv_at (f : Format) (t k : Nat) (h : (t = 0 ∧ k ≤ 2 * f.binade) ∨ (f.binade ≤ k ∧ k ≤ 2 * f.binade)) : rv f (t * f.binade + k) = pv k (f.leastPlace + t) := by
  have hB := binade_pos f
  unfold rv
  by_cases hk : k < f.binade
  · have ht : t = 0 := by omega
    subst ht
    rw [if_pos (by omega)]; simp
  · have hn : ¬ t * f.binade + k < f.binade := by omega
    rw [if_neg hn]
    by_cases hk2 : k = 2 * f.binade
    · subst hk2
      have e : t * f.binade + 2 * f.binade = (t + 2) * f.binade := by rw [Nat.add_mul]
      rw [e, Nat.mul_mod_left, Nat.mul_div_cancel _ hB, Nat.add_zero, show t + 2 - 1 = t + 1 by omega, Nat.mul_comm 2, show f.binade * 2 = f.binade * 2 ^ 1 by rfl, pv_shift]
      congr 1; omega
    · have hlt : k - f.binade < f.binade := by omega
      have e : t * f.binade + k = (k - f.binade) + (t + 1) * f.binade := by rw [Nat.add_mul]; omega
      rw [e, Nat.add_mul_mod_self_right, Nat.add_mul_div_right _ _ hB, Nat.mod_eq_of_lt hlt, Nat.div_eq_of_lt hlt]
      congr 1
      · omega
      · simp
theorem rv_zero (f : Format) : rv f 0 = 0 := by
  unfold rv; rw [if_pos (binade_pos f), pv_zero]
theorem rv_succ (f : Format) (r : Nat) : rv f (r + 1) = rv f r + pv 1 (f.leastPlace + (r / f.binade - 1 : Nat)) := by
  have hB := binade_pos f
  by_cases h : r < f.binade
  · have h1 := rv_at f 0 r (.inl ⟨rfl, by omega⟩)
    have h2 := rv_at f 0 (r + 1) (.inl ⟨rfl, by omega⟩)
    simp only [Nat.zero_mul, Nat.zero_add] at h1 h2
    rw [h1, h2, pv_add, Nat.div_eq_of_lt h]
  · have hm := Nat.mod_lt r hB
    have hd := Nat.div_add_mod r f.binade
    have hq : 1 ≤ r / f.binade := (Nat.one_le_div_iff hB).2 (by omega)
    obtain ⟨t, ht⟩ : ∃ t, r / f.binade = t + 1 := ⟨r / f.binade - 1, by omega⟩
    rw [ht] at hd
    have e : r = t * f.binade + (f.binade + r % f.binade) := by rw [Nat.mul_add, Nat.mul_one, Nat.mul_comm] at hd; omega
    have h1 := rv_at f t (f.binade + r % f.binade) (.inr ⟨by omega, by omega⟩)
    have h2 := rv_at f t (f.binade + r % f.binade + 1) (.inr ⟨by omega, by omega⟩)
    rw [← e] at h1
    rw [← Nat.add_assoc, ← e] at h2
    rw [h1, h2, pv_add, ht]; rfl
theorem rv_lt_succ (f : Format) (r : Nat) : rv f r < rv f (r + 1) := by
  rw [rv_succ]; have := pv_pos (m := 1) (f.leastPlace + (r / f.binade - 1 : Nat)) (by decide); grind
theorem rv_lt (f : Format) {r s : Nat} (h : r < s) : rv f r < rv f s := by
  induction s with
  | zero => omega
  | succ s ih =>
    by_cases e : r = s
    · subst e; exact rv_lt_succ f r
    · have := ih (by omega); have := rv_lt_succ f s; grind
theorem rv_le (f : Format) {r s : Nat} (h : r ≤ s) : rv f r ≤ rv f s := by
  by_cases e : r = s
  · subst e; exact Rat.le_refl
  · exact Rat.le_of_lt (rv_lt f (by omega))
theorem rv_le_iff (f : Format) {r s : Nat} : rv f r ≤ rv f s ↔ r ≤ s := by
  refine ⟨fun h => ?_, rv_le f⟩
  by_cases hh : r ≤ s
  · exact hh
  · exact absurd (rv_lt f (show s < r by omega)) (Rat.not_lt.2 h)
theorem rv_lt_iff (f : Format) {r s : Nat} : rv f r < rv f s ↔ r < s := by
  refine ⟨fun h => ?_, rv_lt f⟩
  by_cases hh : r < s
  · exact hh
  · exact absurd (rv_le f (show s ≤ r by omega)) (Rat.not_le.2 h)
theorem rv_inj (f : Format) {r s : Nat} (h : rv f r = rv f s) : r = s := by
  have h1 := (rv_le_iff f (r := r) (s := s)).1 (by rw [h]; exact Rat.le_refl)
  have h2 := (rv_le_iff f (r := s) (s := r)).1 (by rw [h]; exact Rat.le_refl)
  omega
theorem rv_nonneg (f : Format) (r : Nat) : 0 ≤ rv f r := by have := rv_le f (Nat.zero_le r); rwa [rv_zero] at this

/-- The rung r is nearest to the value v; of two, the even one. -/
structure Near (f : Format) (v : Rat) (r : Nat) : Prop where
  lo : r ≠ 0 → rv f (r - 1) + rv f r ≤ 2 * v
  hi : 2 * v ≤ rv f r + rv f (r + 1)
  evlo : r ≠ 0 → rv f (r - 1) + rv f r = 2 * v → r % 2 = 0
  evhi : 2 * v = rv f r + rv f (r + 1) → r % 2 = 0

theorem Near.mono {f : Format} {v u : Rat} {r s : Nat} (h : Near f v r) (k : Near f u s) (hv : v ≤ u) : r ≤ s := by
  by_cases hh : r ≤ s
  · exact hh
  · exfalso
    have h0 : r ≠ 0 := by omega
    have a := h.lo h0
    have b := k.hi
    have c := rv_le f (show s ≤ r - 1 by omega)
    have d := rv_le f (show s + 1 ≤ r by omega)
    have e1 : rv f s = rv f (r - 1) := by grind
    have e2 : r = s + 1 := by have := rv_inj f e1; omega
    have p1 := h.evlo h0 (by grind)
    have p2 := k.evhi (by subst e2; grind)
    omega
theorem Near.uniq {f : Format} {v : Rat} {r s : Nat} (h : Near f v r) (k : Near f v s) : r = s :=
  Nat.le_antisymm (h.mono k Rat.le_refl) (k.mono h Rat.le_refl)
theorem Near.exact (f : Format) (r : Nat) : Near f (rv f r) r := by
  have h2 := rv_lt_succ f r
  refine ⟨fun h0 => ?_, by grind, fun h0 e => ?_, fun e => ?_⟩
  · have h1 := rv_le f (show r - 1 ≤ r by omega); grind
  · have h1 := rv_lt f (show r - 1 < r by omega); grind
  · grind
theorem Near.le {f : Format} {v : Rat} {r s : Nat} (h : Near f v r) (hv : v ≤ rv f s) : r ≤ s := h.mono (Near.exact f s) hv
theorem Near.ge {f : Format} {v : Rat} {r s : Nat} (h : Near f v r) (hv : rv f s ≤ v) : s ≤ r := (Near.exact f s).mono h hv

/-- What 'cut' to the even one gives. -/
theorem cut_even (neg : Bool) (n drop : Nat) : ∃ c, Toward.even.cut neg n drop = c ∧ 2 * c * 2 ^ drop ≤ 2 * n + 2 ^ drop ∧ 2 * n ≤ 2 * c * 2 ^ drop + 2 ^ drop ∧ (2 * c * 2 ^ drop = 2 * n + 2 ^ drop → c % 2 = 0) ∧ (2 * n = 2 * c * 2 ^ drop + 2 ^ drop → c % 2 = 0) := by
  refine ⟨_, rfl, ?_⟩
  have hlog := Nat.lt_log2_self (n := n)
  by_cases hd : drop ≤ n.log2 + 2
  · have e : min drop (n.log2 + 2) = drop := Nat.min_eq_left hd
    simp only [Toward.cut, e, Nat.one_shiftLeft]
    generalize hD : 2 ^ drop = D
    have hDpos : 0 < D := hD ▸ Nat.two_pow_pos _
    have h1 := Nat.div_add_mod n D
    have h2 := Nat.mod_lt n hDpos
    generalize n / D = q at *
    generalize n % D = r at *
    have key : 2 * q * D = 2 * (D * q) := by rw [Nat.mul_assoc, Nat.mul_comm q D]
    by_cases hb : D < 2 * r
    · have : (decide (D < 2 * r) || D == 2 * r && q % 2 == 1) = true := by simp [hb]
      simp only [this, Bool.toNat_true]
      have k2 : 2 * (q + 1) * D = 2 * (D * q) + 2 * D := by rw [Nat.mul_add, Nat.add_mul, key]
      rw [k2]; omega
    · by_cases he : D = 2 * r
      · by_cases ho : q % 2 = 1
        · have : (decide (D < 2 * r) || D == 2 * r && q % 2 == 1) = true := by simp [he, ho]
          simp only [this, Bool.toNat_true]
          have k2 : 2 * (q + 1) * D = 2 * (D * q) + 2 * D := by rw [Nat.mul_add, Nat.add_mul, key]
          rw [k2]; omega
        · have : (decide (D < 2 * r) || D == 2 * r && q % 2 == 1) = false := by simp [he]; omega
          simp only [this, Bool.toNat_false, Nat.add_zero]
          rw [key]; omega
      · have : (decide (D < 2 * r) || D == 2 * r && q % 2 == 1) = false := by simp [he]; omega
        simp only [this, Bool.toNat_false, Nat.add_zero]
        rw [key]; omega
  · have e : min drop (n.log2 + 2) = n.log2 + 2 := Nat.min_eq_right (by omega)
    have h4 : 2 ^ (n.log2 + 2) = 2 * 2 ^ (n.log2 + 1) := by rw [Nat.pow_succ, Nat.mul_comm]
    have h5 : 2 ^ (n.log2 + 2) ≤ 2 ^ drop := Nat.pow_le_pow_right (by decide) (by omega)
    have hlt : n < 2 ^ (n.log2 + 2) := by omega
    simp only [Toward.cut, e, Nat.one_shiftLeft, Nat.div_eq_of_lt hlt, Nat.mod_eq_of_lt hlt]
    have : (decide (2 ^ (n.log2 + 2) < 2 * n) || 2 ^ (n.log2 + 2) == 2 * n && 0 % 2 == 1) = false := by simp; omega
    simp only [this, Bool.toNat_false, Nat.add_zero]
    omega

theorem binade_even (f : Format) (h : 1 ≤ f.fractionBits) : f.binade % 2 = 0 := by
  unfold Format.binade
  obtain ⟨k, hk⟩ : ∃ k, f.fractionBits = k + 1 := ⟨f.fractionBits - 1, by omega⟩
  rw [hk, Nat.pow_succ]; omega

theorem nearest_spec (f : Format) (hf : 1 ≤ f.fractionBits) (neg : Bool) (m : Nat) (p : Int) :
    ∃ r, f.nearest neg m p = f.word neg (min r f.infRung) ∧ Near f (pv m p) r := by
  by_cases hm : m = 0
  · subst hm
    refine ⟨0, by simp [Format.nearest], ?_⟩
    rw [pv_zero, ← rv_zero f]; exact Near.exact f 0
  · unfold Format.nearest
    rw [if_neg hm]
    dsimp only
    generalize hlast : max (p + (m.log2 : Int) - f.fractionBits) f.leastPlace = last
    have hl1 := Nat.log2_self_le hm
    have hl2 := Nat.lt_log2_self (n := m)
    generalize hL : m.log2 = L at *
    obtain ⟨c, hc, b1, b2, b3, b4⟩ := cut_even neg (m <<< (p - last).toNat) (last - p).toNat
    rw [hc]
    rw [Nat.shiftLeft_eq] at b1 b2 b3 b4
    obtain ⟨t, ht⟩ : ∃ t : Nat, last = f.leastPlace + t := ⟨(last - f.leastPlace).toNat, by omega⟩
    have htt : (last - f.leastPlace).toNat = t := by omega
    rw [htt]
    refine ⟨t * f.binade + c, rfl, ?_⟩
    -- the value, in units of the grid
    generalize hs : (p - last).toNat = s at *
    generalize hd : (last - p).toNat = d at *
    generalize hn : m * 2 ^ s = n at *
    generalize hD : 2 ^ d = D at *
    have hDpos : 0 < D := hD ▸ Nat.two_pow_pos _
    have hv : pv m p = pv n (last - d) := by
      rw [← hn, pv_shift]; congr 1; omega
    have hu : ∀ x : Nat, pv x last = pv (x * D) (last - d) := by
      intro x; rw [← hD, pv_shift]; congr 1; omega
    -- bounds of c
    have hB := binade_pos f
    have hBe := binade_even f hf
    have hup : n < 2 * f.binade * D := by
      have h1 : pv m p < pv (2 ^ (L + 1)) p := pv_lt p hl2
      have h2 : pv (2 ^ (L + 1)) p ≤ pv (2 * f.binade) last := by
        have e1 : pv (2 ^ (L + 1)) p = 2 ^ (p + ((L + 1 : Nat) : Int)) := by
          have := pv_shift 1 (L + 1) p; rw [Nat.one_mul] at this; rw [this]; unfold pv; simp
        have e2 : pv (2 * f.binade) last = 2 ^ (last + ((f.fractionBits + 1 : Nat) : Int)) := by
          have := pv_shift 1 (f.fractionBits + 1) last; rw [Nat.one_mul] at this
          rw [show 2 * f.binade = 2 ^ (f.fractionBits + 1) by unfold Format.binade; rw [Nat.pow_succ, Nat.mul_comm], this]; unfold pv; simp
        rw [e1, e2]
        obtain ⟨k, hk⟩ : ∃ k : Nat, last + ((f.fractionBits + 1 : Nat) : Int) = p + ((L + 1 : Nat) : Int) + k := ⟨(last + ((f.fractionBits + 1 : Nat) : Int) - (p + ((L + 1 : Nat) : Int))).toNat, by omega⟩
        rw [hk, p2_add _ (k : Int), p2_nat k]
        have h3 := p2_pos (p + ((L + 1 : Nat) : Int))
        have h4 : (1 : Rat) ≤ ((2 ^ k : Nat) : Rat) := by exact_mod_cast Nat.one_le_two_pow
        have := Rat.mul_le_mul_of_nonneg_left h4 (Rat.le_of_lt h3)
        grind
      rw [hv] at h1
      rw [hu] at h2
      have := pv_lt_iff (last - d) |>.1 (show pv n (last - d) < pv (2 * f.binade * D) (last - d) by grind)
      exact this
    have hc2 : c ≤ 2 * f.binade := by
      by_cases hh : c ≤ 2 * f.binade
      · exact hh
      · exfalso
        have : (2 * f.binade + 1) * D ≤ c * D := Nat.mul_le_mul_right D (by omega)
        rw [Nat.add_mul, Nat.one_mul] at this
        have e : 2 * c * D = 2 * (c * D) := Nat.mul_assoc ..
        omega
    have hlow : t = 0 ∨ f.binade * D ≤ n := by
      by_cases h0 : t = 0
      · exact .inl h0
      · right
        have el : last = p + (L : Int) - f.fractionBits := by omega
        have h1 : pv (2 ^ L) p ≤ pv m p := pv_le p hl1
        have h2 : pv f.binade last = pv (2 ^ L) p := by
          have e1 := pv_shift 1 L p
          have e2 := pv_shift 1 f.fractionBits last
          rw [Nat.one_mul] at e1 e2
          unfold Format.binade
          rw [e1, e2, el]; congr 1; omega
        rw [hv] at h1
        rw [← h2, hu] at h1
        exact (pv_le_iff _).1 h1
    have hc1 : t = 0 ∨ f.binade ≤ c := by
      rcases hlow with h | h
      · exact .inl h
      · right
        by_cases hh : f.binade ≤ c
        · exact hh
        · exfalso
          have : (c + 1) * D ≤ f.binade * D := Nat.mul_le_mul_right D (by omega)
          rw [Nat.add_mul, Nat.one_mul] at this
          have e : 2 * c * D = 2 * (c * D) := Nat.mul_assoc ..
          omega
    have hat : ∀ k, (t = 0 ∧ k ≤ 2 * f.binade) ∨ (f.binade ≤ k ∧ k ≤ 2 * f.binade) → rv f (t * f.binade + k) = pv (k * D) (last - d) := by
      intro k hk; rw [rv_at f t k hk, ← ht, hu]
    have hrc : rv f (t * f.binade + c) = pv (c * D) (last - d) := hat c (by omega)
    have h2v : 2 * pv m p = pv (2 * n) (last - d) := by rw [hv]; unfold pv; rw [Rat.natCast_mul, Rat.mul_assoc]; rfl
    have hpar : (t * f.binade + c) % 2 = c % 2 := by
      have : (t * f.binade) % 2 = 0 := by rw [Nat.mul_mod, hBe]; simp
      omega
    have ec : 2 * c * D = 2 * (c * D) := Nat.mul_assoc ..
    -- above
    have hnext : pv (c * D + D) (last - d) ≤ rv f (t * f.binade + (c + 1)) ∧ (c < 2 * f.binade → rv f (t * f.binade + (c + 1)) = pv (c * D + D) (last - d)) := by
      have e : c * D + D = (c + 1) * D := by rw [Nat.add_mul, Nat.one_mul]
      by_cases hlt : c < 2 * f.binade
      · have := hat (c + 1) (by omega)
        rw [e, this]; exact ⟨Rat.le_refl, fun _ => rfl⟩
      · refine ⟨?_, fun h => absurd h hlt⟩
        have hce : c = 2 * f.binade := by omega
        rw [← Nat.add_assoc, rv_succ, hrc, pv_add]
        have hq : (t * f.binade + c) / f.binade = t + 2 := by
          rw [hce, ← Nat.add_mul, Nat.mul_div_cancel _ hB]
        rw [hq]
        have hD1 : pv D (last - d) = pv 1 last := by have := hu 1; rw [Nat.one_mul] at this; exact this.symm
        rw [hD1]
        have hge : pv 1 last ≤ pv 1 (f.leastPlace + ((t + 2 - 1 : Nat) : Int)) := by
          rw [show f.leastPlace + ((t + 2 - 1 : Nat) : Int) = last + ((1 : Nat) : Int) by omega, ← pv_shift]
          exact pv_le _ (by decide)
        grind
    -- below
    have hprev : t * f.binade + c ≠ 0 → rv f (t * f.binade + c - 1) ≤ rv f (t * f.binade + c) ∧ (rv f (t * f.binade + c - 1) = pv ((c - 1) * D) (last - d) ∧ 1 ≤ c ∨ c = f.binade ∧ f.binade * D ≤ n) := by
      intro h0
      refine ⟨rv_le f (by omega), ?_⟩
      by_cases hcb : t = 0 ∨ f.binade + 1 ≤ c
      · left
        have h1c : 1 ≤ c := by
          rcases hcb with h | h
          · rw [h, Nat.zero_mul] at h0; omega
          · omega
        refine ⟨?_, h1c⟩
        rw [show t * f.binade + c - 1 = t * f.binade + (c - 1) by omega]
        exact hat (c - 1) (by omega)
      · right
        refine ⟨by omega, by omega⟩
    refine ⟨fun h0 => ?_, ?_, fun h0 e => ?_, fun e => ?_⟩
    · obtain ⟨q1, q2⟩ := hprev h0
      rcases q2 with ⟨q2, q3⟩ | ⟨q2, q3⟩
      · rw [q2, hrc, h2v, ← pv_add]
        refine pv_le _ ?_
        rw [Nat.sub_mul, Nat.one_mul]
        have : D ≤ c * D := Nat.le_mul_of_pos_left _ q3
        omega
      · have : pv (c * D) (last - d) ≤ pv n (last - d) := pv_le _ (by rw [q2]; exact q3)
        rw [hv]
        grind
    · rw [Nat.add_assoc]
      have : pv (2 * n) (last - d) ≤ pv (c * D + (c * D + D)) (last - d) := pv_le _ (by omega)
      rw [pv_add] at this
      rw [h2v, hrc]
      have := hnext.1
      grind
    · rw [hpar]
      obtain ⟨q1, q2⟩ := hprev h0
      rcases q2 with ⟨q2, q3⟩ | ⟨q2, q3⟩
      · rw [q2, hrc, h2v, ← pv_add] at e
        have hle1 := pv_inj _ e
        rw [Nat.sub_mul, Nat.one_mul] at hle1
        have : D ≤ c * D := Nat.le_mul_of_pos_left _ q3
        exact b3 (by omega)
      · rw [q2]; exact hBe
    · rw [hpar]
      by_cases hlt : c < 2 * f.binade
      · rw [Nat.add_assoc, hnext.2 hlt, hrc, h2v, ← pv_add] at e
        have hle1 := pv_inj _ e
        exact b4 (by omega)
      · have : c = 2 * f.binade := by omega
        omega


def sg (f : Format) (x : Nat) : Bool := x / f.signWeight % 2 == 1
def rg (f : Format) (x : Nat) : Nat := x % f.signWeight
def Fnt (f : Format) (x : Nat) : Prop := rg f x < f.infRung
/-- The value of a finite word. -/
def sv (f : Format) (x : Nat) : Rat := if sg f x then -rv f (rg f x) else rv f (rg f x)
def av (v : Rat) : Rat := if v < 0 then -v else v
theorem av_nonneg (v : Rat) : 0 ≤ av v := by unfold av; split <;> grind
theorem av_of_nonneg {v : Rat} (h : 0 ≤ v) : av v = v := by unfold av; rw [if_neg (by grind)]
theorem av_add (v u : Rat) : av (v + u) ≤ av v + av u := by unfold av; split <;> split <;> split <;> grind
theorem av_neg (v : Rat) : av (-v) = av v := by unfold av; split <;> split <;> grind

theorem sw_pos (f : Format) : 0 < f.signWeight := Nat.two_pow_pos _
theorem read_fin2 (f : Format) (x : Nat) (h : Fnt f x) : ∃ m p, f.read x = .number (sg f x) m p ∧ pv m p = rv f (rg f x) ∧ m < 2 * f.binade := by
  unfold Fnt rg at h
  unfold Format.read rg
  dsimp only
  by_cases hb : x % f.signWeight < f.binade
  · rw [if_pos hb]; exact ⟨_, _, rfl, by unfold rv; rw [if_pos hb], by omega⟩
  · rw [if_neg hb, if_pos h]; exact ⟨_, _, rfl, by unfold rv; rw [if_neg hb], by have := Nat.mod_lt (x % f.signWeight) (binade_pos f); omega⟩
theorem read_fin (f : Format) (x : Nat) (h : Fnt f x) : ∃ m p, f.read x = .number (sg f x) m p ∧ pv m p = rv f (rg f x) := by
  obtain ⟨m, p, h1, h2, _⟩ := read_fin2 f x h
  exact ⟨m, p, h1, h2⟩
theorem binade_le_inf (f : Format) (he : 1 ≤ f.exponentBits) : f.binade ≤ f.infRung := by
  unfold Format.infRung
  have : 2 ^ 1 ≤ 2 ^ f.exponentBits := Nat.pow_le_pow_right (by decide) he
  exact Nat.le_mul_of_pos_left _ (by omega)
theorem read_inf (f : Format) (he : 1 ≤ f.exponentBits) (x : Nat) (h : rg f x = f.infRung) : f.read x = .infinity (sg f x) := by
  have := binade_le_inf f he
  unfold rg at h
  unfold Format.read sg
  dsimp only
  rw [if_neg (by omega), if_neg (by omega), if_pos h]
theorem rg_word (f : Format) (s : Bool) {r : Nat} (h : r ≤ f.infRung) : rg f (f.word s r) = r := by
  have := f.infRung_lt
  unfold rg Format.word
  cases s
  · simp only [Bool.false_eq_true, if_false]; exact Nat.mod_eq_of_lt (by omega)
  · simp only [if_true]; rw [Nat.add_mod_left]; exact Nat.mod_eq_of_lt (by omega)
theorem sg_word (f : Format) (s : Bool) {r : Nat} (h : r ≤ f.infRung) : sg f (f.word s r) = s := by
  have := f.infRung_lt
  have hp := sw_pos f
  unfold sg Format.word
  cases s
  · simp only [Bool.false_eq_true, if_false]; rw [Nat.div_eq_of_lt (by omega)]; rfl
  · simp only [if_true]; rw [Nat.add_div_left _ hp, Nat.div_eq_of_lt (by omega)]; rfl
theorem sg_of_le (f : Format) {x : Nat} (h : x ≤ f.infRung) : sg f x = false := by
  have := f.infRung_lt
  unfold sg; rw [Nat.div_eq_of_lt (by omega)]; rfl
theorem rg_of_le (f : Format) {x : Nat} (h : x ≤ f.infRung) : rg f x = x := by
  have := f.infRung_lt
  unfold rg; exact Nat.mod_eq_of_lt (by omega)
theorem fin_of_lt (f : Format) {x : Nat} (h : x < f.infRung) : Fnt f x := by unfold Fnt; rw [rg_of_le f (by omega)]; exact h
theorem sv_of_le (f : Format) {x : Nat} (h : x ≤ f.infRung) : sv f x = rv f x := by
  unfold sv; rw [sg_of_le f h, rg_of_le f h]; simp
theorem av_sv (f : Format) (x : Nat) : av (sv f x) = rv f (rg f x) := by
  have := rv_nonneg f (rg f x)
  unfold sv; cases sg f x
  · simp only [Bool.false_eq_true, if_false]; exact av_of_nonneg this
  · simp only [if_true]; rw [av_neg]; exact av_of_nonneg this
theorem word_false (f : Format) (r : Nat) : f.word false r = r := rfl

/-- The word w is the value v, rounded. -/
def Rnd (f : Format) (v : Rat) (w : Nat) : Prop := ∃ s q, w = f.word s (min q f.infRung) ∧ Near f (av v) q ∧ (0 < v → s = false) ∧ (v < 0 → s = true)
theorem Rnd.rg_le {f : Format} {v : Rat} {w : Nat} (h : Rnd f v w) : rg f w ≤ f.infRung := by
  obtain ⟨s, q, rfl, _⟩ := h
  rw [rg_word f s (Nat.min_le_right ..)]; exact Nat.min_le_right ..
theorem Rnd.le {f : Format} {v : Rat} {w K : Nat} (h : Rnd f v w) (hv : av v ≤ rv f K) : rg f w ≤ K := by
  obtain ⟨s, q, rfl, hn, _⟩ := h
  rw [rg_word f s (Nat.min_le_right ..)]
  exact Nat.le_trans (Nat.min_le_left ..) (hn.le hv)
theorem Rnd.ge {f : Format} {v : Rat} {w K : Nat} (h : Rnd f v w) (hK : K ≤ f.infRung) (hv : rv f K ≤ av v) : K ≤ rg f w := by
  obtain ⟨s, q, rfl, hn, _⟩ := h
  rw [rg_word f s (Nat.min_le_right ..)]
  exact Nat.le_min.2 ⟨hn.ge hv, hK⟩
/-- Where v is above zero, the word is its own rung. -/
theorem Rnd.pos {f : Format} {v : Rat} {w : Nat} (h : Rnd f v w) (hv : 0 < v) : w ≤ f.infRung := by
  obtain ⟨s, q, rfl, hn, h1, _⟩ := h
  rw [h1 hv, word_false]; exact Nat.min_le_right ..
theorem Rnd.fin {f : Format} {v : Rat} {w K : Nat} (h : Rnd f v w) (hK : K < f.infRung) (hv : av v ≤ rv f K) : Fnt f w :=
  Nat.lt_of_le_of_lt (h.le hv) hK

theorem nearest_rnd (f : Format) (hf : 1 ≤ f.fractionBits) (s : Bool) (m : Nat) (p : Int) (v : Rat) (hv : av v = pv m p) (h1 : 0 < v → s = false) (h2 : v < 0 → s = true) : Rnd f v (f.nearest s m p) := by
  obtain ⟨q, e, hn⟩ := nearest_spec f hf s m p
  exact ⟨s, q, e, by rw [hv]; exact hn, h1, h2⟩

theorem signed_val (s : Bool) (m : Nat) (k : Nat) (p : Int) : ((signed s m k : Int) : Rat) * 2 ^ p = if s then -pv m (p + k) else pv m (p + k) := by
  unfold signed
  have e : ((m <<< k : Nat) : Rat) * 2 ^ p = pv m (p + k) := by rw [Nat.shiftLeft_eq, ← pv_shift]; rfl
  cases s
  · simp only [Bool.false_eq_true, if_false]; rw [Rat.intCast_natCast]; exact e
  · simp only [if_true]; rw [Rat.intCast_neg, Rat.intCast_natCast, Rat.neg_mul, e]
theorem natAbs_val (t : Int) (p : Int) : pv t.natAbs p = av ((t : Rat) * 2 ^ p) := by
  have hp := p2_pos p
  unfold pv av
  by_cases h : t < 0
  · have h1 : ((t : Rat)) < 0 := by exact_mod_cast h
    have h2 : (t : Rat) * 2 ^ p < 0 := by
      have := Rat.mul_lt_mul_of_pos_right h1 hp; rwa [Rat.zero_mul] at this
    rw [if_pos h2, ← Rat.neg_mul, ← Rat.intCast_neg, ← Rat.intCast_natCast]
    congr 2; omega
  · have h1 : (0 : Rat) ≤ (t : Rat) := by exact_mod_cast (show 0 ≤ t by omega)
    have h2 : 0 ≤ (t : Rat) * 2 ^ p := Rat.mul_nonneg h1 (Rat.le_of_lt hp)
    rw [if_neg (by grind), ← Rat.intCast_natCast]
    congr 2; omega

section
variable {f : Format} (hf : 1 ≤ f.fractionBits)
include hf

/-- A sum of finite data. -/
theorem sum_spec (s t : Bool) (m n : Nat) (i j : Int) : ∃ d, (Datum.number s m i).sum (.number t n j) = some d ∧
    Rnd f ((if s then -pv m i else pv m i) + (if t then -pv n j else pv n j)) (f.write d) ∧
    ((if s then -pv m i else pv m i) + (if t then -pv n j else pv n j) = 0 → f.write d = f.word (s && t) 0) := by
  refine ⟨_, rfl, ?_⟩
  have hb : min i j + ((i - min i j).toNat : Int) = i := by omega
  have hb' : min i j + ((j - min i j).toNat : Int) = j := by omega
  have e1 := signed_val s m (i - min i j).toNat (min i j)
  have e2 := signed_val t n (j - min i j).toNat (min i j)
  rw [hb] at e1
  rw [hb'] at e2
  rw [← e1, ← e2, ← Rat.add_mul, ← Rat.intCast_add]
  generalize signed s m (i - min i j).toNat + signed t n (j - min i j).toNat = T
  have hp := p2_pos (min i j)
  refine ⟨nearest_rnd f hf _ _ _ _ (natAbs_val T _).symm (fun h => ?_) (fun h => ?_), fun h => ?_⟩
  · have : 0 < T := by
      by_cases h0 : 0 < T
      · exact h0
      · exfalso
        have h1 : ((T : Rat)) ≤ 0 := by exact_mod_cast (show T ≤ 0 by omega)
        have := Rat.mul_le_mul_of_nonneg_right h1 (Rat.le_of_lt hp)
        rw [Rat.zero_mul] at this
        grind
    rw [if_neg (by omega)]; simp; omega
  · have : T < 0 := by
      by_cases h0 : T < 0
      · exact h0
      · exfalso
        have h1 : (0 : Rat) ≤ T := by exact_mod_cast (show 0 ≤ T by omega)
        have := Rat.mul_nonneg h1 (Rat.le_of_lt hp)
        grind
    rw [if_neg (by omega)]; simp; omega
  · have h0 : T = 0 := by
      rcases Rat.mul_eq_zero.1 h with h | h
      · exact_mod_cast h
      · rw [h] at hp; exact absurd hp Rat.lt_irrefl
    subst h0
    rw [if_pos rfl]
    simp [Format.write, Format.nearest]

theorem add_spec {x y : Nat} (hx : Fnt f x) (hy : Fnt f y) : ∃ w, f.add x y = some w ∧ Rnd f (sv f x + sv f y) w ∧ (sv f x + sv f y = 0 → w = f.word (sg f x && sg f y) 0) := by
  obtain ⟨m, p, e1, e2⟩ := read_fin f x hx
  obtain ⟨n, q, e3, e4⟩ := read_fin f y hy
  obtain ⟨d, h1, h2, h3⟩ := sum_spec hf (sg f x) (sg f y) m n p q
  rw [e2, e4] at h2 h3
  exact ⟨f.write d, by unfold Format.add; rw [e1, e3, h1]; rfl, h2, h3⟩
theorem sub_spec {x y : Nat} (hx : Fnt f x) (hy : Fnt f y) : ∃ w, f.sub x y = some w ∧ Rnd f (sv f x - sv f y) w ∧ (sv f x - sv f y = 0 → w = f.word (sg f x && !sg f y) 0) := by
  obtain ⟨m, p, e1, e2⟩ := read_fin f x hx
  obtain ⟨n, q, e3, e4⟩ := read_fin f y hy
  obtain ⟨d, h1, h2, h3⟩ := sum_spec hf (sg f x) (!sg f y) m n p q
  rw [e2, e4] at h2 h3
  have e : sv f x - sv f y = (if sg f x = true then -rv f (rg f x) else rv f (rg f x)) + if (!sg f y) = true then -rv f (rg f y) else rv f (rg f y) := by
    unfold sv; rw [Rat.sub_eq_add_neg]; congr 1; cases sg f y <;> simp
  exact ⟨f.write d, by unfold Format.sub Datum.opposite; rw [e1, e3]; dsimp only; rw [h1]; rfl, by rw [e]; exact h2, by rw [e]; exact h3⟩
theorem mul_spec {x y : Nat} (hx : Fnt f x) (hy : Fnt f y) : ∃ q, f.mul x y = some (f.word (sg f x ^^ sg f y) (min q f.infRung)) ∧ Near f (rv f (rg f x) * rv f (rg f y)) q := by
  obtain ⟨m, p, e1, e2⟩ := read_fin f x hx
  obtain ⟨n, q, e3, e4⟩ := read_fin f y hy
  obtain ⟨r, h1, h2⟩ := nearest_spec f hf (sg f x ^^ sg f y) (m * n) (p + q)
  rw [← pv_mul, e2, e4] at h2
  refine ⟨r, ?_, h2⟩
  unfold Format.mul
  rw [e1, e3, ← h1]; rfl
end
theorem sv_mul (f : Format) (x y : Nat) : sv f x * sv f y = if (sg f x ^^ sg f y) then -(rv f (rg f x) * rv f (rg f y)) else rv f (rg f x) * rv f (rg f y) := by
  unfold sv; cases sg f x <;> cases sg f y <;> simp <;> grind
theorem mul_rnd {f : Format} (hf : 1 ≤ f.fractionBits) {x y : Nat} (hx : Fnt f x) (hy : Fnt f y) : ∃ w, f.mul x y = some w ∧ Rnd f (sv f x * sv f y) w := by
  obtain ⟨q, h1, h2⟩ := mul_spec hf hx hy
  have h0 : 0 ≤ rv f (rg f x) * rv f (rg f y) := Rat.mul_nonneg (rv_nonneg _ _) (rv_nonneg _ _)
  refine ⟨_, h1, _, q, rfl, ?_, ?_, ?_⟩
  · rw [sv_mul]; cases (sg f x ^^ sg f y)
    · simp only [Bool.false_eq_true, if_false]; rw [av_of_nonneg h0]; exact h2
    · simp only [if_true]; rw [av_neg, av_of_nonneg h0]; exact h2
  · rw [sv_mul]; cases (sg f x ^^ sg f y) <;> simp <;> grind
  · rw [sv_mul]; cases (sg f x ^^ sg f y) <;> simp <;> grind


/-- A midpoint, twice: an odd number of units. -/
theorem mid_at (f : Format) (r : Nat) : ∃ k t : Nat, k < 2 * f.binade ∧ rv f r + rv f (r + 1) = pv (2 * k + 1) (f.leastPlace + t) := by
  have hB := binade_pos f
  have key : ∀ t k : Nat, k < 2 * f.binade → ((t = 0 ∧ k ≤ 2 * f.binade) ∨ (f.binade ≤ k ∧ k ≤ 2 * f.binade)) → r = t * f.binade + k → ∃ k t : Nat, k < 2 * f.binade ∧ rv f r + rv f (r + 1) = pv (2 * k + 1) (f.leastPlace + t) := by
    intro t k hk h e
    refine ⟨k, t, hk, ?_⟩
    rw [e, Nat.add_assoc, rv_at f t k h, rv_at f t (k + 1) (by omega), ← pv_add]
    congr 1; omega
  by_cases h : r < f.binade
  · exact key 0 r (by omega) (.inl ⟨rfl, by omega⟩) (by omega)
  · have hm := Nat.mod_lt r hB
    have hd := Nat.div_add_mod r f.binade
    have hq : 1 ≤ r / f.binade := (Nat.one_le_div_iff hB).2 (by omega)
    obtain ⟨t, ht⟩ : ∃ t, r / f.binade = t + 1 := ⟨r / f.binade - 1, by omega⟩
    rw [ht] at hd
    have e : r = t * f.binade + (f.binade + r % f.binade) := by rw [Nat.mul_add, Nat.mul_one, Nat.mul_comm] at hd; omega
    exact key t (f.binade + r % f.binade) (by omega) (.inr ⟨by omega, by omega⟩) e

theorem Near.transfer {f : Format} {u v : Rat} {q : Nat} (h : Near f u q) (H : ∀ r, (2 * u ≤ rv f r + rv f (r + 1) ↔ 2 * v ≤ rv f r + rv f (r + 1)) ∧ (rv f r + rv f (r + 1) ≤ 2 * u ↔ rv f r + rv f (r + 1) ≤ 2 * v)) : Near f v q := by
  have prev : ∀ q ≠ 0, q - 1 + 1 = q := fun q h => by omega
  refine ⟨fun h0 => ?_, (H q).1.1 h.hi, fun h0 e => ?_, fun e => ?_⟩
  · have := (H (q - 1)).2
    rw [prev q h0] at this
    exact this.1 (h.lo h0)
  · have := H (q - 1)
    rw [prev q h0] at this
    have l1 := this.1.2 (by grind)
    have l2 := this.2.2 (by grind)
    exact h.evlo h0 (by grind)
  · have l1 := (H q).1.2 (by grind)
    have l2 := (H q).2.2 (by grind)
    exact h.evhi (by grind)

theorem pv_double (m : Nat) (p : Int) : 2 * pv m p = pv (2 * m) p := by unfold pv; rw [Rat.natCast_mul, Rat.mul_assoc]; rfl
theorem pv_mono_place {m : Nat} {p q : Int} (h : p ≤ q) : pv m p ≤ pv m q := by
  obtain ⟨k, hk⟩ : ∃ k : Nat, q = p + k := ⟨(q - p).toNat, by omega⟩
  rw [hk, ← pv_shift]
  exact pv_le p (Nat.le_mul_of_pos_right _ (Nat.two_pow_pos _))

theorem quot_near (f : Format) {m n : Nat} (i j : Int) (hm : m < 2 * f.binade) (hn : n ≠ 0) {q : Nat}
    (h : Near f (pv (2 * ((m <<< (f.fractionBits + 2 + n.log2 - m.log2)) / n) + ((m <<< (f.fractionBits + 2 + n.log2 - m.log2)) % n != 0).toNat) (i - j - (f.fractionBits + 2 + n.log2 - m.log2 : Nat) - 1)) q) :
    Near f (pv m i / pv n j) q := by
  by_cases hm0 : m = 0
  · subst hm0
    rw [pv_zero]
    rw [Nat.zero_shiftLeft, Nat.zero_div, Nat.zero_mod] at h
    simp only [bne_self_eq_false, Bool.toNat_false, Nat.mul_zero, Nat.add_zero] at h
    rw [pv_zero] at h
    rw [Rat.div_def, Rat.zero_mul]; exact h
  · have hlm : m.log2 ≤ f.fractionBits := by
      have h1 := Nat.log2_self_le hm0
      have h2 : 2 ^ m.log2 < 2 ^ (f.fractionBits + 1) := by
        rw [Nat.pow_succ]; unfold Format.binade at hm; omega
      have := (Nat.pow_lt_pow_iff_right (a := 2) (by decide)).1 h2
      omega
    have hl1 := Nat.log2_self_le hm0
    have hl2 := Nat.lt_log2_self (n := n)
    generalize hmore : f.fractionBits + 2 + n.log2 - m.log2 = more at *
    generalize hg : i - j - (more : Nat) = g at *
    rw [Nat.shiftLeft_eq] at h
    have hdm := Nat.div_add_mod (m * 2 ^ more) n
    have hml := Nat.mod_lt (m * 2 ^ more) (show 0 < n by omega)
    have hD : 2 ^ (f.fractionBits + 2 + n.log2) ≤ m * 2 ^ more := by
      rw [show f.fractionBits + 2 + n.log2 = m.log2 + more by omega, Nat.pow_add]
      exact Nat.mul_le_mul_right _ hl1
    have hq0 : 2 * f.binade ≤ m * 2 ^ more / n := by
      rw [Nat.le_div_iff_mul_le (by omega)]
      refine Nat.le_trans ?_ hD
      have e : 2 ^ (f.fractionBits + 2 + n.log2) = 2 * f.binade * 2 ^ (n.log2 + 1) := by
        unfold Format.binade
        rw [show f.fractionBits + 2 + n.log2 = (f.fractionBits + 1) + (n.log2 + 1) by omega, Nat.pow_add, Nat.pow_succ 2 f.fractionBits]; congr 1; exact Nat.mul_comm ..
      rw [e]
      exact Nat.mul_le_mul_left _ (by omega)
    have hnp : 0 < pv n j := pv_pos j hn
    have hvm : pv m i / pv n j * pv n j = pv (m * 2 ^ more) (g + j) := by
      rw [Rat.div_mul_cancel (by grind), pv_shift]; congr 1; omega
    generalize pv m i / pv n j = v at *
    have hqm : ∀ k, pv k g * pv n j = pv (k * n) (g + j) := fun k => pv_mul ..
    generalize m * 2 ^ more = D at *
    generalize hq : D / n = q0 at *
    have lo : pv q0 g ≤ v := by
      refine Rat.le_of_mul_le_mul_right ?_ hnp
      rw [hvm, hqm]; exact pv_le _ (by rw [Nat.mul_comm]; omega)
    have hi : v < pv (q0 + 1) g := by
      refine Rat.lt_of_mul_lt_mul_right ?_ (Rat.le_of_lt hnp)
      rw [hvm, hqm]; exact pv_lt _ (by rw [Nat.add_mul, Nat.one_mul, Nat.mul_comm]; omega)
    have hu : 2 * pv (2 * q0 + (D % n != 0).toNat) (g - 1) = pv (2 * q0 + (D % n != 0).toNat) g := by
      rw [pv_double, Nat.mul_comm, show (_ * 2 : Nat) = _ * 2 ^ 1 from rfl, pv_shift]; congr 1; omega
    refine h.transfer fun r => ?_
    rw [hu]
    obtain ⟨k, t, hk, hM⟩ := mid_at f r
    rw [hM]
    by_cases hr : D % n = 0
    · have hv : v = pv q0 g := by
        refine Rat.le_antisymm ?_ lo
        refine Rat.le_of_mul_le_mul_right ?_ hnp
        rw [hvm, hqm]; exact pv_le _ (by rw [Nat.mul_comm]; omega)
      rw [hr, hv, pv_double]
      simp
    · have hlo : pv q0 g < v := by
        refine Rat.lt_of_mul_lt_mul_right ?_ (Rat.le_of_lt hnp)
        rw [hvm, hqm]; exact pv_lt _ (by rw [Nat.mul_comm]; omega)
      have hb : (D % n != 0).toNat = 1 := by simp [hr]
      rw [hb]
      have v1 : pv (2 * q0) g < 2 * v := by rw [← pv_double]; grind
      have v2 : 2 * v < pv (2 * (q0 + 1)) g := by rw [← pv_double]; grind
      by_cases hw : g + 1 ≤ f.leastPlace + t
      · obtain ⟨s, hs⟩ : ∃ s : Nat, f.leastPlace + t = g + ((s + 1 : Nat) : Int) := ⟨(f.leastPlace + t - g - 1).toNat, by omega⟩
        rw [hs, ← pv_shift, Nat.pow_succ]
        rw [show (2 * k + 1) * (2 ^ s * 2) = 2 * ((2 * k + 1) * 2 ^ s) by rw [← Nat.mul_assoc, Nat.mul_comm]]
        generalize (2 * k + 1) * 2 ^ s = N
        rw [pv_le_iff, pv_le_iff]
        refine ⟨⟨fun a => ?_, fun a => ?_⟩, ⟨fun a => ?_, fun a => ?_⟩⟩
        · have := pv_le g (show 2 * (q0 + 1) ≤ 2 * N by omega); grind
        · have := (pv_lt_iff g).1 (show pv (2 * q0) g < pv (2 * N) g by grind); omega
        · have := pv_le g (show 2 * N ≤ 2 * q0 by omega); grind
        · have := (pv_lt_iff g).1 (show pv (2 * N) g < pv (2 * (q0 + 1)) g by grind); omega
      · have a1 : pv (2 * k + 1) (f.leastPlace + t) ≤ pv (2 * k + 1) g := pv_mono_place (by omega)
        have a2 : pv (2 * k + 1) g < pv (2 * q0) g := pv_lt g (by omega)
        have a3 : pv (2 * q0) g ≤ pv (2 * q0 + 1) g := pv_le g (by omega)
        refine ⟨⟨fun a => ?_, fun a => ?_⟩, ⟨fun a => ?_, fun a => ?_⟩⟩ <;> grind

theorem div_spec {f : Format} (hf : 1 ≤ f.fractionBits) {x y : Nat} (hx : Fnt f x) (hy : Fnt f y) (h0 : rg f y ≠ 0) : ∃ q, f.div x y = some (f.word (sg f x ^^ sg f y) (min q f.infRung)) ∧ Near f (rv f (rg f x) / rv f (rg f y)) q := by
  obtain ⟨m, p, e1, e2, e5⟩ := read_fin2 f x hx
  obtain ⟨n, q, e3, e4, e6⟩ := read_fin2 f y hy
  have hn : n ≠ 0 := by
    rintro rfl
    rw [pv_zero] at e4
    exact h0 (rv_inj f (by rw [← e4, rv_zero]))
  obtain ⟨r, h1, h2⟩ := nearest_spec f hf (sg f x ^^ sg f y) (2 * ((m <<< (f.fractionBits + 2 + n.log2 - m.log2)) / n) + ((m <<< (f.fractionBits + 2 + n.log2 - m.log2)) % n != 0).toNat) (p - q - (f.fractionBits + 2 + n.log2 - m.log2 : Nat) - 1)
  have h3 := quot_near f p q e5 hn h2
  rw [e2, e4] at h3
  refine ⟨r, ?_, h3⟩
  unfold Format.div
  rw [e1, e3, ← h1]
  simp only [Datum.quotient, if_neg hn]
  rfl
theorem sv_div (f : Format) (x y : Nat) : sv f x / sv f y = if (sg f x ^^ sg f y) then -(rv f (rg f x) / rv f (rg f y)) else rv f (rg f x) / rv f (rg f y) := by
  have neg_inv : ∀ a : Rat, (-a)⁻¹ = -(a⁻¹) := by
    intro a
    by_cases h : a = 0
    · subst h; simp
    · refine Rat.inv_eq_of_mul_eq_one ?_
      rw [Rat.neg_mul, Rat.mul_neg, Rat.neg_neg, Rat.mul_inv_cancel _ h]
  unfold sv; cases sg f x <;> cases sg f y <;> simp [Rat.div_def, neg_inv, Rat.mul_neg, Rat.neg_mul, Rat.neg_neg]
theorem rdiv_nonneg {a b : Rat} (ha : 0 ≤ a) (hb : 0 < b) : 0 ≤ a / b := by
  rw [Rat.div_def]; exact Rat.mul_nonneg ha (Rat.le_of_lt (Rat.inv_pos.2 hb))
theorem rv_pos {f : Format} {r : Nat} (h : r ≠ 0) : 0 < rv f r := by have := rv_lt f (show 0 < r by omega); rwa [rv_zero] at this
theorem div_rnd {f : Format} (hf : 1 ≤ f.fractionBits) {x y : Nat} (hx : Fnt f x) (hy : Fnt f y) (h0 : rg f y ≠ 0) : ∃ w, f.div x y = some w ∧ Rnd f (sv f x / sv f y) w := by
  obtain ⟨q, h1, h2⟩ := div_spec hf hx hy h0
  have hp : 0 ≤ rv f (rg f x) / rv f (rg f y) := rdiv_nonneg (rv_nonneg _ _) (rv_pos h0)
  refine ⟨_, h1, _, q, rfl, ?_, ?_, ?_⟩
  · rw [sv_div]; cases (sg f x ^^ sg f y)
    · simp only [Bool.false_eq_true, if_false]; rw [av_of_nonneg hp]; exact h2
    · simp only [if_true]; rw [av_neg, av_of_nonneg hp]; exact h2
  · rw [sv_div]; cases (sg f x ^^ sg f y) <;> simp <;> grind
  · rw [sv_div]; cases (sg f x ^^ sg f y) <;> simp <;> grind

/-- How finite words stand to each other. -/
theorem order_fin {f : Format} {x y : Nat} (hx : Fnt f x) (hy : Fnt f y) :
    (f.order x y = some .lt ↔ sv f x < sv f y) ∧ (f.order x y = some .eq ↔ sv f x = sv f y) ∧ (f.order x y = some .gt ↔ sv f y < sv f x) := by
  obtain ⟨m, p, e1, e2⟩ := read_fin f x hx
  obtain ⟨n, q, e3, e4⟩ := read_fin f y hy
  unfold Format.order
  rw [e1, e3]
  simp only [Datum.order]
  have hb : min p q + ((p - min p q).toNat : Int) = p := by omega
  have hb' : min p q + ((q - min p q).toNat : Int) = q := by omega
  have k1 := signed_val (sg f x) m (p - min p q).toNat (min p q)
  have k2 := signed_val (sg f y) n (q - min p q).toNat (min p q)
  rw [hb, e2] at k1
  rw [hb', e4] at k2
  unfold sv
  rw [← k1, ← k2]
  generalize signed (sg f x) m (p - min p q).toNat = S
  generalize signed (sg f y) n (q - min p q).toNat = T
  have hp := p2_pos (min p q)
  have hlt : ∀ S T : Int, (S : Rat) * 2 ^ min p q < (T : Rat) * 2 ^ min p q ↔ S < T := fun S T => by
    rw [Rat.mul_lt_mul_right hp]; exact Rat.intCast_lt_intCast
  have heq : (S : Rat) * 2 ^ min p q = (T : Rat) * 2 ^ min p q ↔ S = T := by
    refine ⟨fun h => ?_, fun h => by rw [h]⟩
    have a1 := mt (hlt S T).2 (by rw [h]; exact Rat.lt_irrefl)
    have a2 := mt (hlt T S).2 (by rw [h]; exact Rat.lt_irrefl)
    omega
  rw [hlt, hlt, heq]
  simp only [Option.some.injEq]
  rw [Int.compare_eq_lt, Int.compare_eq_gt, Int.compare_eq_eq]
  exact ⟨Iff.rfl, Iff.rfl, Iff.rfl⟩

/-- A number of few digits is a rung's. -/
theorem exact_rung (f : Format) {m : Nat} {p : Int} (hm : m < 2 * f.binade) (hp : f.leastPlace + f.fractionBits ≤ p) : ∃ r, rv f r = pv m p ∧ (r / f.binade : Nat) ≤ (p - f.leastPlace).toNat + 2 := by
  by_cases h0 : m = 0
  · subst h0; exact ⟨0, by rw [rv_zero, pv_zero], by rw [Nat.zero_div]; omega⟩
  · have h1 := Nat.log2_self_le h0
    have h2 := Nat.lt_log2_self (n := m)
    have hL : m.log2 ≤ f.fractionBits := by
      have h3 : 2 ^ m.log2 < 2 ^ (f.fractionBits + 1) := by rw [Nat.pow_succ]; unfold Format.binade at hm; omega
      have := (Nat.pow_lt_pow_iff_right (a := 2) (by decide)).1 h3
      omega
    have hB := binade_pos f
    generalize hLe : m.log2 = L at *
    have e1 : 2 ^ L * 2 ^ (f.fractionBits - L) = f.binade := by rw [← Nat.pow_add]; unfold Format.binade; congr 1; omega
    have k1 : f.binade ≤ m * 2 ^ (f.fractionBits - L) := by rw [← e1]; exact Nat.mul_le_mul_right _ h1
    have k2 : m * 2 ^ (f.fractionBits - L) ≤ 2 * f.binade := by
      rw [← e1, ← Nat.mul_assoc]; refine Nat.mul_le_mul_right _ ?_; rw [Nat.pow_succ] at h2; omega
    obtain ⟨t, ht⟩ : ∃ t : Nat, p - ((f.fractionBits - L : Nat) : Int) = f.leastPlace + t := ⟨(p - ((f.fractionBits - L : Nat) : Int) - f.leastPlace).toNat, by omega⟩
    refine ⟨t * f.binade + m * 2 ^ (f.fractionBits - L), ?_, ?_⟩
    · rw [rv_at f t _ (.inr ⟨k1, k2⟩), pv_shift]; congr 1; omega
    · have : (t * f.binade + m * 2 ^ (f.fractionBits - L)) / f.binade ≤ t + 2 := by
        refine Nat.le_trans (Nat.div_le_div_right (show _ ≤ (t + 2) * f.binade by rw [Nat.add_mul]; omega)) ?_
        rw [Nat.mul_div_cancel _ hB]; exact Nat.le_refl _
      omega

end Go.Proofs.YtimhljcebeiofaaGreatDoor
