/- Whole numbers out of words: cut towards zero, and downwards. Plain: no program. -/
import Derived.Test.YtimhljcebeiofaaGreatDoorApX
namespace Go.Proofs.YtimhljcebeiofaaGreatDoor
set_option linter.unusedSimpArgs false
set_option linter.unusedVariables false
open Ieee

theorem rnd_exact {f : Format} {v : Rat} {w r : Nat} (h : Rnd f v w) (hr : rv f r = av v) (hi : r < f.infRung) : Fnt f w ∧ sv f w = v := by
  have hs := h.sgn
  obtain ⟨s, q, rfl, hn, h1, h2⟩ := h
  have hq : q = r := by rw [← hr] at hn; exact hn.uniq (Near.exact f r)
  subst hq
  have hm : min q f.infRung = q := by omega
  rw [hm]
  refine ⟨read_word_fin f s hi, ?_⟩
  unfold sv
  rw [rg_word f s (by omega), sg_word f s (by omega), hr]
  by_cases c1 : 0 < v
  · rw [h1 c1]; simp only [Bool.false_eq_true, if_false]; exact av_of_nonneg (by grind)
  · by_cases c2 : v < 0
    · rw [h2 c2]; simp only [if_true]; unfold av; rw [if_pos c2]; grind
    · have : v = 0 := by grind
      subst this
      have : av 0 = 0 := by decide +kernel
      rw [this]; split <;> decide +kernel
/-- Cut towards zero. -/
theorem cut_zero (s : Bool) (n drop : Nat) : Toward.zero.cut s n drop = n / 2 ^ drop := by
  have hlog := Nat.lt_log2_self (n := n)
  by_cases hd : drop ≤ n.log2 + 2
  · have e : min drop (n.log2 + 2) = drop := Nat.min_eq_left hd
    simp only [Toward.cut, e, Nat.one_shiftLeft, Bool.toNat_false, Nat.add_zero]
  · have e : min drop (n.log2 + 2) = n.log2 + 2 := Nat.min_eq_right (by omega)
    have h4 : 2 ^ (n.log2 + 2) = 2 * 2 ^ (n.log2 + 1) := by rw [Nat.pow_succ, Nat.mul_comm]
    have h5 : 2 ^ (n.log2 + 2) ≤ 2 ^ drop := Nat.pow_le_pow_right (by decide) (by omega)
    have hlt : n < 2 ^ (n.log2 + 2) := by omega
    simp only [Toward.cut, e, Nat.one_shiftLeft, Bool.toNat_false, Nat.add_zero]
    rw [Nat.div_eq_of_lt hlt, Nat.div_eq_of_lt (by omega)]
/-- Cut downwards. -/
theorem cut_down (s : Bool) (n drop : Nat) : ∃ c, Toward.down.cut s n drop = c ∧ (s = false → c * 2 ^ drop ≤ n ∧ n < (c + 1) * 2 ^ drop) ∧ (s = true → n ≤ c * 2 ^ drop ∧ c * 2 ^ drop < n + 2 ^ drop) := by
  refine ⟨_, rfl, ?_⟩
  have hlog := Nat.lt_log2_self (n := n)
  have key : ∀ D : Nat, 0 < D → (s = false → (n / D + (s && n % D != 0).toNat) * D ≤ n ∧ n < (n / D + (s && n % D != 0).toNat + 1) * D) ∧ (s = true → n ≤ (n / D + (s && n % D != 0).toNat) * D ∧ (n / D + (s && n % D != 0).toNat) * D < n + D) := by
    intro D hD
    have h1 := Nat.div_add_mod n D
    have h2 := Nat.mod_lt n hD
    have h3 : n / D * D = D * (n / D) := Nat.mul_comm _ _
    generalize n % D = r at *
    generalize n / D = q at *
    refine ⟨?_, ?_⟩
    · rintro rfl
      simp only [Bool.false_and, Bool.toNat_false, Nat.add_zero]
      rw [Nat.add_mul]
      omega
    · rintro rfl
      by_cases hr : r = 0
      · subst hr
        simp only [bne_self_eq_false, Bool.and_false, Bool.toNat_false, Nat.add_zero]
        omega
      · have : (true && r != 0) = true := by simp [hr]
        rw [this]
        simp only [Bool.toNat_true]
        rw [Nat.add_mul]
        omega
  by_cases hd : drop ≤ n.log2 + 2
  · have e : min drop (n.log2 + 2) = drop := Nat.min_eq_left hd
    simp only [Toward.cut, e, Nat.one_shiftLeft]
    exact key _ (Nat.two_pow_pos _)
  · have e : min drop (n.log2 + 2) = n.log2 + 2 := Nat.min_eq_right (by omega)
    have h4 : 2 ^ (n.log2 + 2) = 2 * 2 ^ (n.log2 + 1) := by rw [Nat.pow_succ, Nat.mul_comm]
    have h5 : 2 ^ (n.log2 + 2) ≤ 2 ^ drop := Nat.pow_le_pow_right (by decide) (by omega)
    have hlt : n < 2 ^ (n.log2 + 2) := by omega
    simp only [Toward.cut, e, Nat.one_shiftLeft]
    rw [Nat.div_eq_of_lt hlt, Nat.mod_eq_of_lt hlt]
    have k := key (2 ^ drop) (Nat.two_pow_pos _)
    rw [Nat.div_eq_of_lt (by omega), Nat.mod_eq_of_lt (by omega)] at k
    exact k
theorem place_val (m : Nat) (p : Int) : pv m p * ((2 ^ (-p).toNat : Nat) : Rat) = ((m <<< p.toNat : Nat) : Rat) := by
  rw [Nat.shiftLeft_eq]
  rcases Int.le_total 0 p with h | h
  · have e1 : (-p).toNat = 0 := by omega
    have e2 : pv (m * 2 ^ p.toNat) 0 = pv m p := by rw [pv_shift]; congr 1; omega
    rw [e1, ← e2]
    unfold pv
    have : (2 : Rat) ^ (0 : Int) = 1 := by decide +kernel
    rw [this, show ((2 ^ 0 : Nat) : Rat) = 1 from rfl]
    grind
  · have e1 : p.toNat = 0 := by omega
    rw [e1, Nat.pow_zero, Nat.mul_one, ← p2_nat]
    unfold pv
    rw [Rat.mul_assoc, ← p2_add, show p + (((-p).toNat : Nat) : Int) = 0 by omega]
    have : (2 : Rat) ^ (0 : Int) = 1 := by decide +kernel
    rw [this, Rat.mul_one]
theorem int_rat {a b : Int} (h : (a : Rat) < (b : Rat) + 1) : a ≤ b := by
  have : (a : Rat) < ((b + 1 : Int) : Rat) := by rw [Rat.intCast_add]; exact h
  have := Rat.intCast_lt_intCast.1 this
  omega
/-- What is cut out of a finite word. -/
theorem toInt_fin {x : Nat} (h : Fnt double x) : ∃ k : Int, (FloatKind.f64.decode x).toInt .zero = some k ∧ (0 ≤ sv double x → 0 ≤ k ∧ (k : Rat) ≤ sv double x ∧ sv double x < (k : Rat) + 1) ∧ (sv double x ≤ 0 → k ≤ 0 ∧ sv double x ≤ (k : Rat) ∧ (k : Rat) - 1 < sv double x) := by
  obtain ⟨m, p, e1, e2⟩ := read_fin double x h
  have hd : FloatKind.f64.decode x = .number (sg double x) m p := e1
  rw [hd]
  refine ⟨signed (sg double x) ((m <<< p.toNat) / 2 ^ (-p).toNat) 0, by simp only [Datum.toInt, Datum.integral, cut_zero], ?_⟩
  have hv := place_val m p
  rw [e2] at hv
  have hD : 0 < 2 ^ (-p).toNat := Nat.two_pow_pos _
  have hDR : (0 : Rat) < ((2 ^ (-p).toNat : Nat) : Rat) := by exact_mod_cast hD
  have d1 := Nat.div_add_mod (m <<< p.toNat) (2 ^ (-p).toNat)
  have d2 := Nat.mod_lt (m <<< p.toNat) hD
  have d3 : (((m <<< p.toNat) : Nat) : Rat) = ((2 ^ (-p).toNat : Nat) : Rat) * (((m <<< p.toNat) / 2 ^ (-p).toNat : Nat) : Rat) + (((m <<< p.toNat) % 2 ^ (-p).toNat : Nat) : Rat) := by
    rw [← Rat.natCast_mul, ← Rat.natCast_add, d1]
  have d4 : ((((m <<< p.toNat) % 2 ^ (-p).toNat : Nat)) : Rat) < ((2 ^ (-p).toNat : Nat) : Rat) := by exact_mod_cast d2
  have d5 : (0 : Rat) ≤ ((((m <<< p.toNat) % 2 ^ (-p).toNat : Nat)) : Rat) := by exact_mod_cast Nat.zero_le _
  have hr0 := rv_nonneg double (rg double x)
  have d6 : (0 : Rat) ≤ (((m <<< p.toNat) / 2 ^ (-p).toNat : Nat) : Rat) := by exact_mod_cast Nat.zero_le _
  have hc : ((signed (sg double x) ((m <<< p.toNat) / 2 ^ (-p).toNat) 0 : Int) : Rat) = if sg double x then -(((m <<< p.toNat) / 2 ^ (-p).toNat : Nat) : Rat) else (((m <<< p.toNat) / 2 ^ (-p).toNat : Nat) : Rat) := by
    have := signed_val (sg double x) ((m <<< p.toNat) / 2 ^ (-p).toNat) 0 0
    have h1 : (2 : Rat) ^ (0 : Int) = 1 := by decide +kernel
    unfold pv at this
    rw [show ((0 : Int) + ((0 : Nat) : Int)) = 0 from rfl, h1, Rat.mul_one, Rat.mul_one] at this
    exact this
  have hk : (0 ≤ signed (sg double x) ((m <<< p.toNat) / 2 ^ (-p).toNat) 0 ↔ (0 : Rat) ≤ ((signed (sg double x) ((m <<< p.toNat) / 2 ^ (-p).toNat) 0 : Int) : Rat)) := by
    have := @Rat.intCast_le_intCast 0 (signed (sg double x) ((m <<< p.toNat) / 2 ^ (-p).toNat) 0)
    exact this.symm
  have hk2 : (signed (sg double x) ((m <<< p.toNat) / 2 ^ (-p).toNat) 0 ≤ 0 ↔ ((signed (sg double x) ((m <<< p.toNat) / 2 ^ (-p).toNat) 0 : Int) : Rat) ≤ 0) := by
    have := @Rat.intCast_le_intCast (signed (sg double x) ((m <<< p.toNat) / 2 ^ (-p).toNat) 0) 0
    exact this.symm
  rw [hk, hk2, hc]
  unfold sv
  generalize ((2 ^ (-p).toNat : Nat) : Rat) = D at *
  generalize (((m <<< p.toNat) / 2 ^ (-p).toNat : Nat) : Rat) = q at *
  generalize (((m <<< p.toNat) % 2 ^ (-p).toNat : Nat) : Rat) = r at *
  generalize ((m <<< p.toNat : Nat) : Rat) = n at *
  generalize rv double (rg double x) = v at *
  have v1 : q ≤ v := by
    by_cases hh : q ≤ v
    · exact hh
    · have := Rat.mul_lt_mul_of_pos_right (show v < q by grind) hDR
      grind
  have v2 : v < q + 1 := by
    by_cases hh : v < q + 1
    · exact hh
    · have := Rat.mul_le_mul_of_nonneg_right (show q + 1 ≤ v by grind) (Rat.le_of_lt hDR)
      grind
  cases sg double x
  · simp only [Bool.false_eq_true, if_false]
    refine ⟨fun _ => ⟨d6, v1, v2⟩, fun hv0 => ?_⟩
    have : q = 0 := by grind
    subst this
    have : v = 0 := by grind
    subst this
    refine ⟨Rat.le_refl, Rat.le_refl, by decide +kernel⟩
  · simp only [if_true]
    refine ⟨fun hv0 => ?_, fun _ => ⟨by grind, by grind, by grind⟩⟩
    have : v = 0 := by grind
    subst this
    have : q = 0 := by grind
    subst this
    refine ⟨by decide +kernel, by decide +kernel, by decide +kernel⟩
/-- A double word made whole, downwards. -/
def flW (x : Nat) : Nat := FloatKind.f64.encode ((FloatKind.f64.decode x).integral .down)
theorem i64_min : IntKind.i64.min = -9223372036854775808 := by decide
theorem i64_max : IntKind.i64.max = 9223372036854775807 := by decide
/-- The whole number below a finite word, by way of the floor. -/
theorem floor_int {x : Nat} (h : Fnt double x) (hb : av (sv double x) ≤ 1000000000000) : ∃ n : Int, floatToIntVal .f64 (flW x) .i64 = some n ∧ (n : Rat) ≤ sv double x ∧ sv double x < (n : Rat) + 1 := by
  obtain ⟨m, p, e1, e2⟩ := read_fin double x h
  have hd : FloatKind.f64.decode x = .number (sg double x) m p := e1
  have hv := place_val m p
  rw [e2] at hv
  have hD : 0 < 2 ^ (-p).toNat := Nat.two_pow_pos _
  have hDR : (0 : Rat) < ((2 ^ (-p).toNat : Nat) : Rat) := by exact_mod_cast hD
  obtain ⟨c, hc, hc1, hc2⟩ := cut_down (sg double x) (m <<< p.toNat) (-p).toNat
  have hfl : flW x = double.nearest (sg double x) c 0 := by
    unfold flW; rw [hd]
    simp only [Datum.integral, hc]
    rfl
  have hav := av_sv double x
  rw [hav] at hb
  -- the size of c
  have hn1 : ((c : Nat) : Rat) ≤ rv double (rg double x) + 1 := by
    have : (c : Rat) * ((2 ^ (-p).toNat : Nat) : Rat) ≤ (rv double (rg double x) + 1) * ((2 ^ (-p).toNat : Nat) : Rat) := by
      rw [Rat.add_mul, hv, Rat.one_mul, ← Rat.natCast_mul, ← Rat.natCast_add]
      have : c * 2 ^ (-p).toNat ≤ m <<< p.toNat + 2 ^ (-p).toNat := by
        cases hs : sg double x
        · have := (hc1 hs).1; omega
        · have := (hc2 hs).2; omega
      exact_mod_cast this
    by_cases hh : (c : Rat) ≤ rv double (rg double x) + 1
    · exact hh
    · have := Rat.mul_lt_mul_of_pos_right (show rv double (rg double x) + 1 < (c : Rat) by grind) hDR
      grind
  have hcb : c ≤ 1000000000001 := by
    have : (c : Rat) ≤ ((1000000000001 : Nat) : Rat) := by
      have : ((1000000000001 : Nat) : Rat) = 1000000000001 := rfl
      grind
    exact_mod_cast this
  -- its word
  have hpc : pv c 0 = (c : Rat) := by
    unfold pv
    have : (2 : Rat) ^ (0 : Int) = 1 := by decide +kernel
    rw [this, Rat.mul_one]
  obtain ⟨r, r1, r2⟩ := exact_rung double (m := c) (p := 0) (by rw [d_bin]; omega) (by decide)
  have hri : r < double.infRung := by
    have h3 : (0 - double.leastPlace).toNat + 2 ≤ 1076 := by decide
    have h4 : r < 1077 * double.binade := (Nat.div_lt_iff_lt_mul (binade_pos _)).1 (by omega)
    rw [d_bin] at h4
    rw [d_inf]; omega
  have hc0 : (0 : Rat) ≤ (c : Rat) := by exact_mod_cast Nat.zero_le c
  have hx0 := rv_nonneg double (rg double x)
  have hcz : rv double (rg double x) = 0 → c = 0 := by
    intro h0
    rw [h0] at hv
    have hn0 : ((m <<< p.toNat : Nat) : Rat) = ((0 : Nat) : Rat) := by rw [← hv, Rat.zero_mul]; rfl
    have hn0 : m <<< p.toNat = 0 := by exact_mod_cast hn0
    rw [hn0] at hc1 hc2
    have key : c * 2 ^ (-p).toNat < 1 * 2 ^ (-p).toNat := by
      cases hs : sg double x
      · have := (hc1 hs).1; omega
      · have := (hc2 hs).2; omega
    have := Nat.lt_of_mul_lt_mul_right key
    omega
  have hw : Rnd double (if sg double x then -(c : Rat) else (c : Rat)) (flW x) := by
    rw [hfl]
    refine nearest_rnd double d_hf _ _ _ _ ?_ (fun hp => ?_) (fun hp => ?_)
    · rw [hpc]
      cases sg double x
      · simp only [Bool.false_eq_true, if_false]; exact av_of_nonneg hc0
      · simp only [if_true]; rw [av_neg]; exact av_of_nonneg hc0
    · cases hs : sg double x
      · rfl
      · rw [hs] at hp; simp only [if_true] at hp; grind
    · cases hs : sg double x
      · rw [hs] at hp; simp only [Bool.false_eq_true, if_false] at hp; grind
      · rfl
  obtain ⟨f1, f2⟩ := rnd_exact hw (r := r) (by
    rw [r1, hpc]
    cases sg double x
    · simp only [Bool.false_eq_true, if_false]; exact (av_of_nonneg hc0).symm
    · simp only [if_true]; rw [av_neg]; exact (av_of_nonneg hc0).symm) hri
  obtain ⟨k, k1, k2, k3⟩ := toInt_fin f1
  refine ⟨k, ?_, ?_⟩
  · unfold floatToIntVal
    rw [k1]
    have hk : -2000000000000 ≤ k ∧ k ≤ 2000000000000 := by
      have hcr : (c : Rat) ≤ 1000000000001 := by
        have : (c : Rat) ≤ ((1000000000001 : Nat) : Rat) := by exact_mod_cast hcb
        exact this
      have q1 : -(1000000000001 : Rat) ≤ sv double (flW x) ∧ sv double (flW x) ≤ 1000000000001 := by
        rw [f2]; cases sg double x
        · simp only [Bool.false_eq_true, if_false]; constructor <;> grind
        · simp only [if_true]; constructor <;> grind
      by_cases h0 : 0 ≤ sv double (flW x)
      · obtain ⟨a, b, _⟩ := k2 h0
        refine ⟨by omega, ?_⟩
        have : (k : Rat) < ((2000000000000 : Int) : Rat) + 1 := by
          have : ((2000000000000 : Int) : Rat) = 2000000000000 := rfl
          grind
        exact int_rat this
      · obtain ⟨a, b, _⟩ := k3 (by grind)
        refine ⟨?_, by omega⟩
        have : ((-2000000000000 : Int) : Rat) < (k : Rat) + 1 := by
          have : ((-2000000000000 : Int) : Rat) = -2000000000000 := rfl
          grind
        exact int_rat this
    have : IntKind.i64.min ≤ k ∧ k ≤ IntKind.i64.max := by rw [i64_min, i64_max]; omega
    simp only [this, and_self, if_true]
  · -- k is the signed c
    have hkc : (k : Rat) = sv double (flW x) := by
      have hci : (((c : Nat) : Int) : Rat) = (c : Rat) := Rat.intCast_natCast c
      rw [f2] at k2 k3 ⊢
      cases hs : sg double x
      · rw [hs] at k2
        simp only [Bool.false_eq_true, if_false] at k2 ⊢
        obtain ⟨a, b, d⟩ := k2 hc0
        rw [← hci] at b d ⊢
        have x1 : k ≤ (c : Int) := int_rat (by grind)
        have x2 : (c : Int) ≤ k := int_rat (by grind)
        have : k = (c : Int) := by omega
        rw [this]
      · rw [hs] at k3
        simp only [if_true] at k3 ⊢
        obtain ⟨a, b, d⟩ := k3 (by grind)
        rw [← hci] at b d ⊢
        rw [← Rat.intCast_neg] at b d ⊢
        have x1 : k ≤ -(c : Int) := int_rat (by grind)
        have x2 : -(c : Int) ≤ k := int_rat (by grind)
        have : k = -(c : Int) := by omega
        rw [this]
    rw [hkc, f2]
    have key1 : sg double x = false → (c : Rat) ≤ rv double (rg double x) ∧ rv double (rg double x) < (c : Rat) + 1 := by
      intro hs
      obtain ⟨a, b⟩ := hc1 hs
      have a' : ((c * 2 ^ (-p).toNat : Nat) : Rat) ≤ ((m <<< p.toNat : Nat) : Rat) := by exact_mod_cast a
      have b' : ((m <<< p.toNat : Nat) : Rat) < (((c + 1) * 2 ^ (-p).toNat : Nat) : Rat) := by exact_mod_cast b
      rw [Rat.natCast_mul, ← hv] at a' b'
      rw [Rat.natCast_add, show ((1 : Nat) : Rat) = 1 from rfl] at b'
      constructor
      · by_cases hh : (c : Rat) ≤ rv double (rg double x)
        · exact hh
        · have := Rat.mul_lt_mul_of_pos_right (show rv double (rg double x) < (c : Rat) by grind) hDR
          grind
      · by_cases hh : rv double (rg double x) < (c : Rat) + 1
        · exact hh
        · have := Rat.mul_le_mul_of_nonneg_right (show (c : Rat) + 1 ≤ rv double (rg double x) by grind) (Rat.le_of_lt hDR)
          grind
    have key2 : sg double x = true → rv double (rg double x) ≤ (c : Rat) ∧ (c : Rat) < rv double (rg double x) + 1 := by
      intro hs
      obtain ⟨a, b⟩ := hc2 hs
      have a' : ((m <<< p.toNat : Nat) : Rat) ≤ ((c * 2 ^ (-p).toNat : Nat) : Rat) := by exact_mod_cast a
      have b' : ((c * 2 ^ (-p).toNat : Nat) : Rat) < ((m <<< p.toNat + 2 ^ (-p).toNat : Nat) : Rat) := by exact_mod_cast b
      rw [Rat.natCast_mul, ← hv] at a'
      rw [Rat.natCast_mul, Rat.natCast_add, ← hv] at b'
      constructor
      · by_cases hh : rv double (rg double x) ≤ (c : Rat)
        · exact hh
        · have := Rat.mul_lt_mul_of_pos_right (show (c : Rat) < rv double (rg double x) by grind) hDR
          grind
      · by_cases hh : (c : Rat) < rv double (rg double x) + 1
        · exact hh
        · have := Rat.mul_le_mul_of_nonneg_right (show rv double (rg double x) + 1 ≤ (c : Rat) by grind) (Rat.le_of_lt hDR)
          grind
    unfold sv
    cases hs : sg double x
    · simp only [Bool.false_eq_true, if_false]
      exact key1 hs
    · obtain ⟨a, b⟩ := key2 hs
      simp only [if_true]
      constructor <;> grind

end Go.Proofs.YtimhljcebeiofaaGreatDoor
