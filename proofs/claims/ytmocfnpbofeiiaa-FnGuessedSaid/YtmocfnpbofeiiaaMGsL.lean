/- Guesses: Fano's inequality on exact fractions (plain). -/
import Derived.Test.YtmocfnpbofeiiaaMTbF
import Derived.Test.YtmocfnpbofeiiaaMR8T
import Derived.Test.YtmocfnpbofeiiaaMJop
import Derived.Test.YtmocfnpbofeiiaaMTtP
namespace Go.Proofs.Ytmocfnpbofeiiaa
set_option linter.unusedSimpArgs false
set_option linter.unusedVariables false
open Go.RowKit
open Ieee
theorem sel_sum (f : Nat → Rat) (A B : Rat) (b : Nat) : ∀ n, smN (fun i => f i * (if i = b then A else B)) n = B * smN f n + (if b < n then (A - B) * f b else 0)
  | 0 => by simp only [smN]; rw [if_neg (by omega)]; grind
  | n + 1 => by
    simp only [smN]
    rw [sel_sum f A B b n]
    by_cases h : n = b
    · subst h
      rw [if_pos rfl, if_neg (by omega), if_pos (by omega)]
      grind
    · rw [if_neg h]
      by_cases h2 : b < n
      · rw [if_pos h2, if_pos (by omega)]; grind
      · rw [if_neg h2, if_neg (by omega)]; grind
theorem one_sum (n : Nat) : smN (fun _ => 1) n = (n : Rat) := by
  induction n with
  | zero => rfl
  | succ n ih => simp only [smN]; rw [ih, nat_rat1]
theorem fano {q : Nat → Nat → Rat} {m a : Nat} {b : Nat → Nat} {R P : Rat} (pos : ∀ k, k < m → ∀ i, i < a → 0 < q k i) (one : sm2 q m a = 1) (hb : ∀ k, k < m → b k < a) (a2 : 2 ≤ a) (hR : smN (fun k => q k (b k)) m = R) (hP : P = 1 - R) (R0 : 0 < R) (P0 : 0 < P) :
    Hg q m a ≤ 0 - (R * Lb R + P * Lb P) + P * Lb ((a : Rat) - 1) + 1 / 10000000000000 := by
  have nn : ∀ k, k < m → ∀ i, i < a → 0 ≤ q k i := fun k hk i hi => Rat.le_of_lt (pos k hk i hi)
  have E1 := Rat.le_trans (neg_le_av _) (Ht_eq nn one)
  have ar : (2 : Rat) ≤ (a : Rat) := by exact_mod_cast a2
  obtain ⟨B, hB⟩ : ∃ B, B = P / ((a : Rat) - 1) := ⟨_, rfl⟩
  have hBa : B * ((a : Rat) - 1) = P := by rw [hB]; exact Rat.div_mul_cancel (by grind)
  have B0 : 0 < B := by
    by_cases h : 0 < B
    · exact h
    · have := Rat.mul_le_mul_of_nonneg_right (show B ≤ 0 by grind) (show 0 ≤ (a : Rat) - 1 by grind)
      grind
  have c := lnC_inv
  have L1 := Rat.le_trans (neg_le_av _) (Lb_mul B0 (show 0 < (a : Rat) - 1 by grind))
  have L2 := Rat.le_trans (le_av _) (Lb_mul B0 (show 0 < (a : Rat) - 1 by grind))
  rw [hBa] at L1 L2
  -- each term
  have key : ∀ k, k < m → ∀ i, i < a → q k i * (Lb (smN (q k) a) - Lb (q k i)) ≤ (smN (q k) a * (if i = b k then R else B)) * lnC⁻¹ + ((1 / 100000000000000 - lnC⁻¹) * q k i + (-1) * (q k i * (if i = b k then Lb R else Lb B))) := by
    intro k hk i hi
    have hq := pos k hk i hi
    have hr : 0 < smN (q k) a := smN_pos (by omega) (fun i hi => pos k hk i hi)
    obtain ⟨s, hs⟩ : ∃ s, s = if i = b k then R else B := ⟨_, rfl⟩
    have s0 : 0 < s := by rw [hs]; split <;> assumption
    have hl : (if i = b k then Lb R else Lb B) = Lb s := by rw [hs]; split <;> rfl
    have G := gibL hq (Rat.mul_pos hr s0)
    have L := Rat.le_trans (neg_le_av _) (Lb_mul hr s0)
    rw [← hs, hl]
    have := Rat.mul_le_mul_of_nonneg_left (show Lb (smN (q k) a) + Lb s - 1 / 1000000000000000 ≤ Lb (smN (q k) a * s) by grind) (Rat.le_of_lt hq)
    generalize Lb (smN (q k) a * s) = X at *
    generalize Lb (smN (q k) a) = Y at *
    generalize Lb s = Z at *
    generalize Lb (q k i) = V at *
    generalize smN (q k) a = r at *
    generalize lnC⁻¹ = z at *
    grind
  have S := sm2_le key
  have e1 : sm2 (fun k i => (smN (q k) a * (if i = b k then R else B)) * lnC⁻¹ + ((1 / 100000000000000 - lnC⁻¹) * q k i + (-1) * (q k i * (if i = b k then Lb R else Lb B)))) m a = sm2 (fun k i => (smN (q k) a * (if i = b k then R else B)) * lnC⁻¹) m a + ((1 / 100000000000000 - lnC⁻¹) * sm2 q m a + (-1) * sm2 (fun k i => q k i * (if i = b k then Lb R else Lb B)) m a) := by
    rw [sm2_add, sm2_add, sm2_mul, sm2_mul]
  have e2 : sm2 (fun k i => (smN (q k) a * (if i = b k then R else B)) * lnC⁻¹) m a = lnC⁻¹ := by
    have : ∀ k, k < m → smN (fun i => (smN (q k) a * (if i = b k then R else B)) * lnC⁻¹) a = lnC⁻¹ * smN (q k) a := fun k hk => by
      rw [show smN (fun i => (smN (q k) a * (if i = b k then R else B)) * lnC⁻¹) a = smN (fun i => (smN (q k) a * lnC⁻¹) * (1 * (if i = b k then R else B))) a from smN_eq a fun i _ => by grind, smN_mul, sel_sum (fun _ => 1) R B (b k) a, if_pos (hb k hk), one_sum]
      have : B * (a : Rat) + (R - B) * 1 = 1 := by grind
      rw [this]
      grind
    unfold sm2
    rw [smN_eq m this, smN_mul, show smN (fun k => smN (q k) a) m = 1 from one]
    grind
  have e3 : sm2 (fun k i => q k i * (if i = b k then Lb R else Lb B)) m a = Lb B * 1 + (Lb R - Lb B) * R := by
    have : ∀ k, k < m → smN (fun i => q k i * (if i = b k then Lb R else Lb B)) a = Lb B * smN (q k) a + (Lb R - Lb B) * q k (b k) := fun k hk => by
      rw [sel_sum (q k) (Lb R) (Lb B) (b k) a, if_pos (hb k hk)]
    unfold sm2
    rw [smN_eq m this, smN_add, smN_mul, smN_mul, hR, show smN (fun k => smN (q k) a) m = 1 from one]
  rw [e1, e2, e3, one] at S
  have e4 : sm2 (fun k i => q k i * (Lb (smN (q k) a) - Lb (q k i))) m a = Ht q m a - Hr q m a := by
    have h1 : sm2 (fun k i => q k i * (Lb (smN (q k) a) - Lb (q k i))) m a = sm2 (fun k i => q k i * Lb (smN (q k) a) + (-1) * (q k i * Lb (q k i))) m a := sm2_eq fun k _ i _ => by grind
    have h2 : sm2 (fun k i => q k i * Lb (smN (q k) a)) m a = smN (fun k => smN (q k) a * Lb (smN (q k) a)) m := by
      unfold sm2
      refine smN_eq m fun k _ => ?_
      rw [Rat.mul_comm, ← smN_mul]
      exact smN_eq a fun i _ => Rat.mul_comm _ _
    rw [h1, sm2_add, sm2_mul, h2]
    unfold Ht Hr Hx
    grind
  rw [e4] at S
  have M := Rat.mul_le_mul_of_nonneg_left (show -(1 / 1000000000000000) + Lb P - Lb ((a : Rat) - 1) ≤ Lb B by grind) (Rat.le_of_lt P0)
  have PR : R + P = 1 := by grind
  have E2 := Rat.le_trans (le_av _) (Ht_eq nn one)
  generalize Lb ((a : Rat) - 1) = LA at *
  generalize Lb P = LP at *
  generalize Lb R = LR at *
  generalize Lb B = LB at *
  generalize Hg q m a = hg at *
  generalize Ht q m a = ht at *
  generalize Hr q m a = hr at *
  generalize lnC⁻¹ = z at *
  have k1 : P ≤ 1 := by grind
  have k2 : LB * 1 + (LR - LB) * R = R * LR + P * LB := by rw [hP]; grind
  rw [k2] at S
  generalize P * LB = u1 at *
  generalize R * LR = u2 at *
  have k3 : P * (-(1 / 1000000000000000) + LP - LA) = P * LP - P * LA - P * (1 / 1000000000000000) := by grind
  rw [k3] at M
  generalize P * LP = u3 at *
  generalize P * LA = u4 at *
  clear k2 k3
  clear key e1 e2 e3 e4 L1 L2 hB hBa hR c pos nn one
  grind

end Go.Proofs.Ytmocfnpbofeiiaa

/- Guesses in single precision: near the exact ones (plain). -/
namespace Go.Proofs.Ytmocfnpbofeiiaa
set_option linter.unusedSimpArgs false
set_option linter.unusedVariables false
open Go.RowKit
open Ieee
/-- The place of the greatest of the first t words. -/
def bsI (xs : List Nat) : Nat → Nat
  | 0 => 0
  | t + 1 => if xs[bsI xs t]?.getD 0 < xs[t]?.getD 0 then t else bsI xs t
theorem bsI_spec (xs : List Nat) : ∀ t, (bsI xs t < t ∨ (t = 0 ∧ bsI xs t = 0)) ∧ ∀ i, i < t → xs[i]?.getD 0 ≤ xs[bsI xs t]?.getD 0
  | 0 => ⟨.inr ⟨rfl, rfl⟩, fun i hi => by omega⟩
  | t + 1 => by
    obtain ⟨h1, h2⟩ := bsI_spec xs t
    simp only [bsI]
    by_cases h : xs[bsI xs t]?.getD 0 < xs[t]?.getD 0
    · rw [if_pos h]
      refine ⟨.inl (by omega), fun i hi => ?_⟩
      by_cases e : i = t
      · rw [e]; exact Nat.le_refl _
      · have := h2 i (by omega); omega
    · rw [if_neg h]
      refine ⟨.inl (by omega), fun i hi => ?_⟩
      by_cases e : i = t
      · rw [e]; omega
      · exact h2 i (by omega)
theorem bsI_lt (xs : List Nat) {t : Nat} (h : 1 ≤ t) : bsI xs t < t := by have := (bsI_spec xs t).1; omega
/-- The greatest words of rows, added up. -/
def gsS (tz : List Nat) (a : Nat) : Nat → Nat
  | 0 => 0
  | t + 1 => fA .add .f32 (gsS tz a t) ((rowOf tz a t)[bsI (rowOf tz a t) a]?.getD 0)
/-- A channel of exact fractions. -/
structure Chx (xs : List Nat) (a m : Nat) (C : Nat → Nat → Rat) : Prop where
  len : xs.length = a * m
  a1 : 2 ≤ a
  a2 : a ≤ 4
  m1 : 2 ≤ m
  m2 : m ≤ 4
  el : ∀ i, i < a → ∀ k, k < m → Rq (1 / 8000000) (xs[i * m + k]?.getD 0) (C i k)
  low : ∀ i, i < a → ∀ k, k < m → 1 / 24 ≤ C i k
  one : ∀ i, i < a → smN (C i) m = 1
/-- Counts from 1 to 6. -/
structure Bn (ks : List Nat) (n : Nat) : Prop where
  len : ks.length = n
  n1 : 1 ≤ n
  n4 : n ≤ 4
  all : ∀ k ∈ ks, 1 ≤ k ∧ k ≤ 6
theorem Bn.cn {ks : List Nat} {n : Nat} (h : Bn ks n) : Cn ks n := by
  have := h.len; have := h.n1
  refine ⟨h.len, fun c hc => by have := h.all c hc; omega, ?_⟩
  have hl : n - 1 < ks.length := by omega
  rw [List.getElem?_eq_getElem hl, Option.getD_some]
  exact (h.all _ (List.getElem_mem _)).1
theorem Bn.rw1 {ks : List Nat} {n : Nat} (h : Bn ks n) : Rw1 (1 / 8000000) (rowK ks) n (psC ks) := h.cn.rw1 h.n1 (by have := h.n4; omega)
theorem Bn.low {ks : List Nat} {n : Nat} (h : Bn ks n) {i : Nat} (hi : i < n) : 1 / 24 ≤ psC ks i := by
  have hl : i < ks.length := by rw [h.len]; exact hi
  have h1 : 1 ≤ ks[i]?.getD 0 := by rw [List.getElem?_eq_getElem hl, Option.getD_some]; exact (h.all _ (List.getElem_mem _)).1
  have hs : ks.sum ≤ 24 := by
    have : ∀ ks : List Nat, (∀ k ∈ ks, 1 ≤ k ∧ k ≤ 6) → ks.sum ≤ 6 * ks.length := by
      intro ks
      induction ks with
      | nil => intro _; simp
      | cons k ks ih => intro hk; have := ih (fun x hx => hk x (List.mem_cons_of_mem _ hx)); have := hk k (List.mem_cons_self ..); rw [List.sum_cons, List.length_cons]; omega
    have := this ks h.all
    have := h.len
    have := h.n4
    omega
  have hs1 := (h.cn.sum h.n1).1
  have a1 : (1 : Rat) ≤ ((ks[i]?.getD 0 : Nat) : Rat) := by exact_mod_cast h1
  have a2 := nat_rat hs
  rw [show ((24 : Nat) : Rat) = 24 from rfl] at a2
  have a3 : (1 : Rat) ≤ ((ks.sum : Nat) : Rat) := by exact_mod_cast hs1
  unfold psC
  generalize ((ks[i]?.getD 0 : Nat) : Rat) = x at *
  generalize ((ks.sum : Nat) : Rat) = s at *
  obtain ⟨q, hq⟩ : ∃ q, q = x / s := ⟨_, rfl⟩
  have hqs : q * s = x := by rw [hq]; exact Rat.div_mul_cancel (by grind)
  rw [← hq]
  by_cases hc : 1 / 24 ≤ q
  · exact hc
  · have := Rat.mul_lt_mul_of_pos_right (show q < 1 / 24 by grind) (show 0 < s by grind)
    grind
theorem jOf_at (xs rs : List Nat) (m : Nat) : ∀ t i k : Nat, i < t → k < m → (jOf xs rs m t)[i * m + k]?.getD 0 = fA .mul .f32 (rs[i]?.getD 0) (xs[i * m + k]?.getD 0) := by
  intro t
  induction t with
  | zero => intro i k hi; omega
  | succ t ih =>
    intro i k hi hk
    rw [jOf_succ]
    by_cases h : i = t
    · subst h
      rw [List.getElem?_append_right (by rw [jOf_length]; omega), jOf_length, Nat.add_sub_cancel_left]
      unfold jRow
      rw [List.getElem?_map, List.getElem?_range hk]
      rfl
    · rw [List.getElem?_append_left (by
        rw [jOf_length]
        have : (i + 1) * m ≤ t * m := Nat.mul_le_mul_right m (by omega)
        rw [Nat.add_mul, Nat.one_mul] at this
        omega)]
      exact ih i k (by omega) hk
section
variable {xs rs : List Nat} {a m : Nat} {C : Nat → Nat → Rat} {p : Nat → Rat} (h : Chx xs a m C) (r : Rw1 (1 / 8000000) rs a p) (lo : ∀ i, i < a → 1 / 24 ≤ p i)
include h r lo
theorem Chx.wlow {i k : Nat} (hi : i < a) (hk : k < m) : 1 / 576 ≤ p i * C i k ∧ p i * C i k ≤ 1 := by
  have l1 := lo i hi
  have l2 := h.low i hi k hk
  have u1 := (r.le1 hi).2
  have g1 := Rat.mul_le_mul_of_nonneg_right l1 (show 0 ≤ C i k by grind)
  have u2 : C i k ≤ 1 := by
    have := le_part (p := C) (a := a) (m := m) (fun i hi k hk => (h.el i hi k hk).nn) hi hk
    rw [h.one i hi] at this
    exact this
  have g2 := Rat.mul_le_mul_of_nonneg_right u1 (show 0 ≤ C i k by grind)
  grind
theorem Chx.joint : Tb (1 / 2000000) (jOf xs rs m a) a m (fun i k => p i * C i k) := by
  have := h.a1; have := h.a2; have := h.m1; have := h.m2
  refine ⟨jOf_length _ _ _ _, by omega, by omega, by omega, by omega, fun i hi k hk => ?_, ?_⟩
  · rw [jOf_at _ _ _ _ _ _ hi hk]
    have w := h.wlow r lo hi hk
    exact (rq_mul (r.el i hi) (h.el i hi k hk) (fun _ => by grind) (by grind) (by decide +kernel) (by decide +kernel)).2
  · unfold sm2
    rw [show smN (fun i => smN (fun k => p i * C i k) m) a = smN p a from smN_eq a fun i hi => by rw [smN_mul, h.one i hi, Rat.mul_one], r.one]
omit r lo in
theorem Chx.rows {i : Nat} (hi : i < a) : Rw1 (1 / 8000000) (rowOf xs m i) m (C i) := by
  have := h.m1; have := h.m2
  refine ⟨rowOf_length (by rw [h.len]; exact row_le hi), by omega, by omega, fun k hk => ?_, h.one i hi⟩
  rw [tb_rowAt hk]
  exact h.el i hi k hk
theorem Chx.fits : fitB (a : Int) (m : Int) xs rs = true ∧ jnOk (a : Int) (m : Int) xs rs = true := by
  have h1 := h.a1; have h2 := h.a2; have h3 := h.m1; have h4 := h.m2; have h5 := h.len
  have hf : fitB (a : Int) (m : Int) xs rs = true := by
    have hv : validCh (a : Int) (m : Int) xs = true := by
      unfold validCh inB
      have hall : (List.range a).all (fun k => rowB (rowOf xs m k)) = true := by
        rw [List.all_eq_true]
        intro i hi
        exact (h.rows (List.mem_range.1 hi)).row (by decide +kernel) (by decide +kernel) (by omega)
      rw [Int.toNat_natCast, Int.toNat_natCast, hall, h5]
      simp
      omega
    have hr := r.row (by decide +kernel) (by decide +kernel) (show a ≤ 32 by omega)
    unfold fitB
    rw [hv, hr, r.len]
    simp
  refine ⟨hf, ?_⟩
  unfold jnOk
  rw [hf, Int.toNat_natCast, Int.toNat_natCast, (h.joint r lo).valid (by decide +kernel) (by decide +kernel)]
  rfl
end

end Go.Proofs.Ytmocfnpbofeiiaa

/- Best guesses, what they miss, and its bound, in single precision (plain). -/
namespace Go.Proofs.Ytmocfnpbofeiiaa
set_option linter.unusedSimpArgs false
set_option linter.unusedVariables false
open Go.RowKit
open Ieee
theorem term_le {f : Nat → Rat} {n j : Nat} (h : ∀ i, i < n → 0 ≤ f i) (hj : j < n) : f j ≤ smN f n := by
  have := le_part (p := fun _ => f) (a := 1) (m := n) (fun _ _ k hk => h k hk) (show 0 < 1 by omega) hj
  exact this
theorem two_le_sum {f : Nat → Rat} {n b j : Nat} (h : ∀ i, i < n → 0 ≤ f i) (hb : b < n) (hj : j < n) (hne : j ≠ b) : f b + f j ≤ smN f n := by
  have e := sel_sum f 0 1 b n
  rw [if_pos hb] at e
  have t := term_le (f := fun i => f i * (if i = b then 0 else 1)) (n := n) (j := j) (fun i hi => by
    have := h i hi
    split <;> grind) hj
  rw [if_neg hne] at t
  grind
theorem sv_mono {x y : Nat} (hx : x < 2139095040) (hy : y < 2139095040) (h : x ≤ y) : sv single x ≤ sv single y := by
  rw [sv_of_le single (by rw [s_inf]; omega), sv_of_le single (by rw [s_inf]; omega)]
  exact rv_le single h
def tzO (xs rs : List Nat) (a m : Nat) : List Nat := turnOf (jOf xs rs m a) m a m
def bO (xs rs : List Nat) (a m k : Nat) : Nat := bsI (rowOf (tzO xs rs a m) a k) a
def mwO (xs rs : List Nat) (a m : Nat) : Nat := fA .sub .f32 1065353216 (gsS (tzO xs rs a m) a m)
noncomputable def RO (xs rs : List Nat) (a m : Nat) (C : Nat → Nat → Rat) (p : Nat → Rat) : Rat := smN (fun k => p (bO xs rs a m k) * C (bO xs rs a m k) k) m
theorem one32 : Ap .f32 1065353216 1 0 := Ap.ex (k := .f32) (fin_of_lt single (by rw [s_inf]; omega)) ss_1
theorem part_d {P : Rat} (h : 1 / 576 ≤ P) : ∃ d : Rat, 0 ≤ d ∧ d * P = 1 / 1000000 ∧ d ≤ 576 / 1000000 := by
  obtain ⟨d, hd⟩ : ∃ d, d = (1 / 1000000) / P := ⟨_, rfl⟩
  have hdR : d * P = 1 / 1000000 := by rw [hd]; exact Rat.div_mul_cancel (by grind)
  clear hd
  refine ⟨d, ?_, hdR, ?_⟩
  · by_cases hc : 0 ≤ d
    · exact hc
    · have := Rat.mul_lt_mul_of_pos_right (show d < 0 by grind) (show 0 < P by grind)
      rw [hdR, Rat.zero_mul] at this
      exact absurd this (by decide +kernel)
  · by_cases hc : d ≤ 576 / 1000000
    · exact hc
    · have := Rat.mul_lt_mul_of_pos_right (show 576 / 1000000 < d by grind) (show 0 < P by grind)
      rw [hdR] at this
      grind
section
variable {xs rs : List Nat} {a m : Nat} {C : Nat → Nat → Rat} {p : Nat → Rat} (h : Chx xs a m C) (r : Rw1 (1 / 8000000) rs a p) (lo : ∀ i, i < a → 1 / 24 ≤ p i)
include h r lo
theorem Chx.turn : Tb (1 / 2000000) (tzO xs rs a m) m a (fun k i => p i * C i k) := (h.joint r lo).turn
omit r lo in
theorem Chx.bLt (rs : List Nat) (k : Nat) : bO xs rs a m k < a := bsI_lt _ (by have := h.a1; omega)
omit r lo in
theorem Chx.bMax (rs : List Nat) {k i : Nat} (hi : i < a) : (tzO xs rs a m)[k * a + i]?.getD 0 ≤ (tzO xs rs a m)[k * a + bO xs rs a m k]?.getD 0 := by
  have := (bsI_spec (rowOf (tzO xs rs a m) a k) a).2 i hi
  rw [tb_rowAt (i := k) hi] at this
  have e := tb_rowAt (xs := tzO xs rs a m) (i := k) (h.bLt rs k)
  unfold bO at e ⊢
  rw [e] at this
  exact this
theorem Chx.bMaxX {k i : Nat} (hk : k < m) (hi : i < a) : p i * C i k ≤ p (bO xs rs a m k) * C (bO xs rs a m k) k + 1 / 900000 := by
  have T := h.turn r lo
  have b := h.bLt rs k
  have R1 := T.el k hk i hi
  have R2 := T.el k hk _ b
  have s := sv_mono R1.1 R2.1 (h.bMax rs hi)
  have e1 := Rat.le_trans (neg_le_av _) R1.2.2.2.2
  have e2 := Rat.le_trans (le_av _) R2.2.2.2.2
  have w1 := (h.wlow r lo hi hk).2
  have w2 := (h.wlow r lo b hk).2
  grind
theorem Chx.gs : ∀ t, t ≤ m → Rq (1 / 1000000) (gsS (tzO xs rs a m) a t) (smN (fun k => p (bO xs rs a m k) * C (bO xs rs a m k) k) t) ∧ (t < m → (floatBits .add .f32 (gsS (tzO xs rs a m) a t) ((rowOf (tzO xs rs a m) a t)[bO xs rs a m t]?.getD 0)).isSome = true) := by
  have T := h.turn r lo
  have m2 := nat_rat h.m2
  rw [show ((4 : Nat) : Rat) = 4 from rfl] at m2
  have hs : smN (fun k => p (bO xs rs a m k) * C (bO xs rs a m k) k) m ≤ 2 := by
    have := smN_le (f := fun k => p (bO xs rs a m k) * C (bO xs rs a m k) k) (g := fun k => smN (fun i => p i * C i k) a) m (fun k hk => term_le (f := fun i => p i * C i k) (fun i hi => T.nn hk hi) (h.bLt rs k))
    rw [show smN (fun k => smN (fun i => p i * C i k) a) m = 1 from T.one] at this
    exact Rat.le_trans this (by decide +kernel)
  have S := rq_sum (d := 1 / 2000000) (w := fun k => (tzO xs rs a m)[k * a + bO xs rs a m k]?.getD 0) (q := fun k => p (bO xs rs a m k) * C (bO xs rs a m k) k) (m := m) (by have := h.m2; omega) (by decide +kernel) (by decide +kernel) (fun k hk => T.el k hk _ (h.bLt rs k)) hs
  have e : ∀ t, t ≤ m → gsS (tzO xs rs a m) a t = flS (fun k => (tzO xs rs a m)[k * a + bO xs rs a m k]?.getD 0) t := by
    intro t
    induction t with
    | zero => intro _; rfl
    | succ t ih =>
      intro ht
      simp only [gsS, flS]
      rw [ih (by omega)]
      have := tb_rowAt (xs := tzO xs rs a m) (i := t) (h.bLt rs t)
      unfold bO at this ⊢
      rw [this]
  intro t ht
  have S1 := S t ht
  rw [e t ht]
  have tm := nat_rat ht
  refine ⟨S1.1.mono (by grind), fun hlt => ?_⟩
  have := S1.2 hlt
  rw [tb_rowAt (i := t) (h.bLt rs t)]
  exact this
theorem Chx.rLe : RO xs rs a m C p ≤ 1 - 1 / 576 ∧ 1 / 5 ≤ RO xs rs a m C p ∧ ∀ i, i < a → p i ≤ RO xs rs a m C p + 1 / 200000 := by
  have T := h.turn r lo
  have nn : ∀ k, k < m → ∀ i, i < a → 0 ≤ p i * C i k := fun k hk i hi => T.nn hk hi
  have m1 := h.m1
  have a1 := h.a1
  have mr := nat_rat h.m2
  have ar := nat_rat h.a2
  rw [show ((4 : Nat) : Rat) = 4 from rfl] at mr ar
  have hone : smN (fun k => smN (fun i => p i * C i k) a) m = 1 := T.one
  unfold RO
  refine ⟨?_, ?_, ?_⟩
  · have key : smN (fun k => p (bO xs rs a m k) * C (bO xs rs a m k) k + (1 / 576) * 1) m ≤ smN (fun k => smN (fun i => p i * C i k) a) m := smN_le m fun k hk => by
      have hb := h.bLt rs k
      obtain ⟨j, hj, hne⟩ : ∃ j, j < a ∧ j ≠ bO xs rs a m k := by
        by_cases e : bO xs rs a m k = 0
        · exact ⟨1, by omega, by omega⟩
        · exact ⟨0, by omega, fun hc => e hc.symm⟩
      have := two_le_sum (f := fun i => p i * C i k) (fun i hi => nn k hk i hi) hb hj hne
      have w := (h.wlow r lo hj hk).1
      grind
    rw [smN_add, smN_mul, hone, one_sum] at key
    have : (1 : Rat) ≤ (m : Rat) := by exact_mod_cast (show 1 ≤ m by omega)
    grind
  · have key : smN (fun k => smN (fun i => p i * C i k) a) m ≤ smN (fun k => 4 * (p (bO xs rs a m k) * C (bO xs rs a m k) k) + (1 / 200000) * 1) m := smN_le m fun k hk => by
      have w0 := nn k hk _ (h.bLt rs k)
      have : smN (fun i => p i * C i k) a ≤ smN (fun i => (p (bO xs rs a m k) * C (bO xs rs a m k) k + 1 / 900000) * 1) a := smN_le a fun i hi => by
        have := h.bMaxX r lo hk hi
        grind
      rw [smN_mul, one_sum] at this
      have := Rat.mul_le_mul_of_nonneg_left ar (show 0 ≤ p (bO xs rs a m k) * C (bO xs rs a m k) k + 1 / 900000 by grind)
      grind
    rw [smN_add, smN_mul, smN_mul, hone, one_sum] at key
    grind
  · intro i hi
    have key : smN (fun k => p i * C i k) m ≤ smN (fun k => p (bO xs rs a m k) * C (bO xs rs a m k) k + (1 / 900000) * 1) m := smN_le m fun k hk => by
      have := h.bMaxX r lo hk hi
      grind
    rw [smN_add, smN_mul, smN_mul, one_sum, h.one i hi] at key
    grind
theorem Chx.rR : Rq (1 / 1000000) (gsS (tzO xs rs a m) a m) (RO xs rs a m C p) := (h.gs r lo m (Nat.le_refl _)).1
/-- What is missed. -/
theorem Chx.miss : (floatBits .sub .f32 1065353216 (gsS (tzO xs rs a m) a m)).isSome = true ∧ ∃ d, 0 ≤ d ∧ d * (1 - RO xs rs a m C p) ≤ 1 / 800000 ∧ d ≤ 1 / 1000 ∧ Rq d (mwO xs rs a m) (1 - RO xs rs a m C p) := by
  obtain ⟨R1, R2, _⟩ := h.rLe r lo
  have G := h.rR r lo
  obtain ⟨w, w1, w2, _⟩ := sub_spec (k_hf .f32) one32.1 G.fnt
  obtain ⟨a1, a2⟩ := fA_of (op := .sub) (k := .f32) w1
  refine ⟨a1, ?_⟩
  unfold mwO
  rw [a2]
  have hg := G.2.2.2.2
  rw [show FloatKind.f32.format = single from rfl, ss_1] at w2
  generalize RO xs rs a m C p = R at *
  obtain ⟨d, d0, hdR, d1⟩ := part_d (show 1 / 576 ≤ 1 - R by grind)
  have q1 : 1 - R ≤ 1 := by grind
  have q2 : 1 / 10000 ≤ 1 - R := by grind
  have q3 : R ≤ 1 := by grind
  clear R1 R2 a1 a2 w1
  refine ⟨d + 1 / 8000000, ?_, ?_, ?_, rq_of w2 q2 (Rat.le_trans q1 (by decide +kernel)) ?_ d0 (Rat.le_trans d1 (by decide +kernel)) Rat.le_refl⟩
  · clear hg G w2; grind
  · clear hg G w2
    rw [Rat.add_mul, hdR]
    have := Rat.mul_le_mul_of_nonneg_left q1 (show (0 : Rat) ≤ 1 / 8000000 by decide +kernel)
    grind
  · clear hg G w2; grind
  rw [hdR, show 1 - sv single (gsS (tzO xs rs a m) a m) - (1 - R) = -(sv single (gsS (tzO xs rs a m) a m) - R) by grind, av_neg]
  refine Rat.le_trans hg ?_
  clear hg G w2
  grind
end

end Go.Proofs.Ytmocfnpbofeiiaa

/- The bound of what is missed, and what went in told by rows, in single precision (plain). -/
namespace Go.Proofs.Ytmocfnpbofeiiaa
set_option linter.unusedSimpArgs false
set_option linter.unusedVariables false
open Go.RowKit
open Ieee
theorem lb_nat : ∀ n : Nat, n = 1 ∨ n = 2 ∨ n = 3 → Ap .f32 (enB (fw n)) (Lb (n : Rat)) (1 / 100000) ∧ av (Lb (n : Rat)) ≤ 4 ∧ 0 < fw n ∧ fw n < 2139095040 := by
  intro n hn
  have hf := fw_exact (show n < 2000 by omega)
  have h01 : 0 < fw n ∧ fw n < 2139095040 := by rcases hn with rfl | rfl | rfl <;> decide +kernel
  have hr : (1 : Rat) ≤ (n : Rat) ∧ (n : Rat) ≤ 3 := by rcases hn with rfl | rfl | rfl <;> decide +kernel
  have he := eta_s
  have L1 := Ln_le (show (0 : Rat) < (n : Rat) by grind)
  have L2 := Ln_mono (show (0 : Rat) < 1 by decide +kernel) hr.1
  rw [Ln_one] at L2
  have B : av (Ln (n : Rat)) ≤ 5 / 2 := av_le (by grind) (by grind)
  have T := enB_ap (E := 1 / 100000) (lnF_ap (E := 1 / 2000000) h01.1 h01.2 (B := 5 / 2) (by rw [hf.2]; exact B) (by decide +kernel) (by decide +kernel)) (B := 5 / 2) (by rw [hf.2]; exact B) (by decide +kernel) (by decide +kernel)
  rw [hf.2] at T
  refine ⟨T, ?_, h01.1, h01.2⟩
  unfold Lb
  rw [Rat.div_def]
  exact Rat.le_trans (av_mul_le B (show av lnC⁻¹ ≤ 3 / 2 by decide +kernel)) (by decide +kernel)
def nwO (xs rs : List Nat) (a m : Nat) : Nat := fA .sub .f32 1065353216 (mwO xs rs a m)
def bwO (xs rs : List Nat) (a m : Nat) : Nat := fA .add .f32 (entF [mwO xs rs a m, nwO xs rs a m]) (fA .mul .f32 (mwO xs rs a m) (enB (fw (a - 1))))
noncomputable def bX (a : Nat) (R : Rat) : Rat := (0 - (R * Lb R + (1 - R) * Lb (1 - R))) + (1 - R) * Lb ((a : Rat) - 1)
theorem quo_mono {x y s : Nat} (hx : x ≤ y) (hy : y < 2139095040) (s0 : 0 < s) (hs : s < 2139095040) : fA .quo .f32 x s ≤ fA .quo .f32 y s := by
  have fx : Fnt single x := fin_of_lt single (by rw [s_inf]; omega)
  have fy : Fnt single y := fin_of_lt single (by rw [s_inf]; omega)
  have fs : Fnt single s := fin_of_lt single (by rw [s_inf]; omega)
  have rs : rg single s = s := rg_of_le single (by rw [s_inf]; omega)
  have rx : rg single x = x := rg_of_le single (by rw [s_inf]; omega)
  have ry : rg single y = y := rg_of_le single (by rw [s_inf]; omega)
  obtain ⟨q, h1, h2⟩ := div_spec (k_hf .f32) fx fs (by rw [show FloatKind.f32.format = single from rfl, rs]; omega)
  obtain ⟨t, k1, k2⟩ := div_spec (k_hf .f32) fy fs (by rw [show FloatKind.f32.format = single from rfl, rs]; omega)
  obtain ⟨_, a2⟩ := fA_of (op := .quo) (k := .f32) h1
  obtain ⟨_, b2⟩ := fA_of (op := .quo) (k := .f32) k1
  have sx : sg single x = false := sg_of_le single (by rw [s_inf]; omega)
  have sy : sg single y = false := sg_of_le single (by rw [s_inf]; omega)
  have ss : sg single s = false := sg_of_le single (by rw [s_inf]; omega)
  rw [show FloatKind.f32.format = single from rfl] at h2 k2 a2 b2
  have hle : rv single (rg single x) / rv single (rg single s) ≤ rv single (rg single y) / rv single (rg single s) := by
    rw [rx, ry, rs, Rat.div_def, Rat.div_def]
    have hp : 0 < rv single s := rv_pos (by omega)
    have hinv : 0 ≤ (rv single s)⁻¹ := by
      have := Rat.inv_pos.2 hp
      exact Rat.le_of_lt this
    exact Rat.mul_le_mul_of_nonneg_right (rv_le single hx) hinv
  have hq := h2.mono k2 hle
  rw [a2, b2, sx, sy, ss]
  show single.word false (min q single.infRung) ≤ single.word false (min t single.infRung)
  rw [word_false, word_false]
  omega
section
variable {xs rs : List Nat} {a m : Nat} {C : Nat → Nat → Rat} {p : Nat → Rat} (h : Chx xs a m C) (r : Rw1 (1 / 8000000) rs a p) (lo : ∀ i, i < a → 1 / 24 ≤ p i)
include h r lo
theorem Chx.nw : (floatBits .sub .f32 1065353216 (mwO xs rs a m)).isSome = true ∧ Rq (1 / 100000) (nwO xs rs a m) (RO xs rs a m C p) := by
  obtain ⟨R1, R2, _⟩ := h.rLe r lo
  obtain ⟨_, d, d0, d1, d2, M⟩ := h.miss r lo
  obtain ⟨w, w1, w2, _⟩ := sub_spec (k_hf .f32) one32.1 M.fnt
  obtain ⟨a1, a2⟩ := fA_of (op := .sub) (k := .f32) w1
  refine ⟨a1, ?_⟩
  unfold nwO
  rw [a2]
  have hg := Rat.le_trans M.2.2.2.2 d1
  rw [show FloatKind.f32.format = single from rfl, ss_1] at w2
  clear a1 a2 w1 M d1
  generalize RO xs rs a m C p = R at *
  refine rq_of (d := 1 / 150000) w2 (by clear hg w2; grind) (by clear hg w2; grind) ?_ (by decide +kernel) (by decide +kernel) (by decide +kernel)
  rw [show 1 - sv single (mwO xs rs a m) - R = -(sv single (mwO xs rs a m) - (1 - R)) by grind, av_neg]
  refine Rat.le_trans hg ?_
  clear hg w2
  grind
theorem Chx.bound : (∀ x ∈ [mwO xs rs a m, nwO xs rs a m], En x) ∧ 0 < mwO xs rs a m ∧ mwO xs rs a m < 2139095040 ∧ (floatBits .mul .f32 (mwO xs rs a m) (enB (fw (a - 1)))).isSome = true ∧ (floatBits .add .f32 (entF [mwO xs rs a m, nwO xs rs a m]) (fA .mul .f32 (mwO xs rs a m) (enB (fw (a - 1))))).isSome = true ∧ Ap .f32 (bwO xs rs a m) (bX a (RO xs rs a m C p)) (1 / 3000) ∧ av (bX a (RO xs rs a m C p)) ≤ 40 := by
  obtain ⟨R1, R2, _⟩ := h.rLe r lo
  obtain ⟨_, d, d0, d1, d2, M⟩ := h.miss r lo
  obtain ⟨_, N⟩ := h.nw r lo
  have ha1 := h.a1
  have ha2 := h.a2
  obtain ⟨B1, B2, _, _⟩ := lb_nat (a - 1) (by omega)
  have hcast : (((a - 1 : Nat) : Nat) : Rat) = (a : Rat) - 1 := by
    have : ((a : Nat) : Rat) = (((a - 1 : Nat) : Nat) : Rat) + 1 := by rw [← nat_rat1]; congr 1; omega
    grind
  rw [hcast] at B1 B2
  have en : ∀ {x : Nat} {q d : Rat}, Rq d x q → q ≤ 1 → d ≤ 1 / 1000 → En x := by
    intro x q d hq hq1 hd
    refine ⟨.inl hq.1, ?_⟩
    have A := hq.2.2.2.2
    have C := Rat.mul_le_mul_of_nonneg_right hd hq.nn
    have D := av_add (sv single x - q) q
    rw [show sv single x - q + q = sv single x by grind, av_of_nonneg hq.nn] at D
    show av (sv single x) ≤ pv 1 ((1 : Nat) : Int)
    rw [show pv 1 ((1 : Nat) : Int) = 2 by decide +kernel]
    generalize av (sv single x) = u at *
    generalize av (sv single x - q) = v at *
    grind
  have hmp := M.pos d2 (by clear M N; grind)
  have hnp := N.pos (by decide +kernel) (by clear M N; grind)
  have hP0 : 1 - RO xs rs a m C p ≠ 0 := by clear M N; grind
  have hR0 : RO xs rs a m C p ≠ 0 := by clear M N; grind
  have em := en M (by clear M N; grind) d2
  have enn := en N (by clear M N; grind) (by decide +kernel)
  have hall : ∀ x ∈ [mwO xs rs a m, nwO xs rs a m], En x := by
    intro x hx
    simp only [List.mem_cons, List.not_mem_nil, or_false] at hx
    rcases hx with hx | hx
    · rw [hx]; exact em
    · rw [hx]; exact enn
  refine ⟨hall, hmp.1, M.1, ?_⟩
  have eS : entF [mwO xs rs a m, nwO xs rs a m] = fA .sub .f32 0 (fA .add .f32 (fA .add .f32 0 (enT (mwO xs rs a m))) (enT (nwO xs rs a m))) := by
    unfold entF enS
    simp only [List.foldl]
    unfold enA
    have := M.1
    have := N.1
    rw [if_neg (by omega), if_neg (by omega)]
  unfold bwO
  rw [eS]
  unfold bX
  have mlb := Lb_in (M.2.2.1 hP0) M.2.2.2.1
  have nlb := Lb_in (N.2.2.1 hR0) N.2.2.2.1
  have mb := rq_bits M hP0 d2
  have nt := rq_term N hR0 (by clear M N; grind) (by decide +kernel)
  generalize mwO xs rs a m = mw at *
  generalize nwO xs rs a m = nw at *
  generalize RO xs rs a m C p = R at *
  obtain ⟨P, hP⟩ : ∃ P, P = 1 - R := ⟨_, rfl⟩
  rw [← hP] at M d1 hP0 mlb mb ⊢
  have P1 : P ≤ 4 / 5 := by grind
  have P2 : 1 / 576 ≤ P := by grind
  have ddP := Rat.mul_le_mul_of_nonneg_right d2 (show 0 ≤ d * P by have := Rat.mul_nonneg d0 (show 0 ≤ P by grind); exact this)
  clear hP em enn en eS hmp hnp hall
  have t1 := rq_times (f := 1 / 30000) (g := (1 + d) * (2 * d + 1 / 200000) + d * 14 + 15 / 8000000) M mb mlb (by decide +kernel) (by decide +kernel) d2 (by grind) hP0 (by grind) (by
    rw [show ((1 + d) * (2 * d + 1 / 200000) + d * 14 + 15 / 8000000) * P = 2 * (d * P) + 2 * (d * (d * P)) + (1 / 200000) * (d * P) + (1 / 200000) * P + 14 * (d * P) + (15 / 8000000) * P by grind]
    generalize d * P = y at *
    generalize d * y = z at *
    grind)
  have t2 := rq_times (f := 1 / 50000) (g := (1 + d) * (1 / 100000) + d * 4 + 5 / 8000000) M B1 B2 (by decide +kernel) (by decide +kernel) d2 (by decide +kernel) hP0 (by grind) (by
    rw [show ((1 + d) * (1 / 100000) + d * 4 + 5 / 8000000) * P = (1 / 100000) * P + (1 / 100000) * (d * P) + 4 * (d * P) + (5 / 8000000) * P by grind]
    generalize d * P = y at *
    grind)
  have e1 : av (P * Lb P) ≤ 12 := Rat.le_trans (av_mul_le (show av P ≤ 4 / 5 by rw [av_of_nonneg (by grind)]; exact P1) mlb) (by decide +kernel)
  have e2 : av (R * Lb R) ≤ 14 := Rat.le_trans nt.2 (by grind)
  have e3 : av (P * Lb ((a : Rat) - 1)) ≤ 4 := Rat.le_trans (av_mul_le (show av P ≤ 4 / 5 by rw [av_of_nonneg (by grind)]; exact P1) B2) (by decide +kernel)
  have n2 : Ap .f32 (enT nw) (R * Lb R) (1 / 5500) := nt.1.mono (by grind)
  have t1' : Ap .f32 (enT mw) (P * Lb P) (1 / 30000) := t1.2
  have s1 := acc_step zero_ap t1' (by rw [Rat.zero_add]; exact Rat.le_trans e1 (by decide +kernel)) (by decide +kernel)
  rw [Rat.zero_add] at s1
  have e12 := av_add_le e1 e2
  have s2 := acc_step s1.2 n2 (Rat.le_trans e12 (by decide +kernel)) (by decide +kernel)
  have e0 : av (0 - (P * Lb P + R * Lb R)) ≤ 26 := by
    rw [show ∀ z : Rat, 0 - z = -z from fun z => by grind, av_neg]
    exact Rat.le_trans e12 (by decide +kernel)
  have s3 := ap_sub (k := .f32) (E := 1 / 4200) zero_ap s2.2 (A := 26) e0 (by decide +kernel) (by decide +kernel)
  have e4 := av_add_le e0 e3
  have s4 := acc_step s3.2 t2.2 (Rat.le_trans e4 (by decide +kernel)) (by decide +kernel)
  refine ⟨t2.1, s4.1, ?_⟩
  rw [show R * Lb R + P * Lb P = P * Lb P + R * Lb R from Rat.add_comm _ _]
  exact ⟨s4.2.mono (by decide +kernel), Rat.le_trans e4 (by decide +kernel)⟩
end

end Go.Proofs.Ytmocfnpbofeiiaa

/- What the law FnGuessed asks of words near exact numbers (plain). -/
namespace Go.Proofs.Ytmocfnpbofeiiaa
set_option linter.unusedSimpArgs false
set_option linter.unusedVariables false
open Go.RowKit
open Ieee
/-- Words added up in double precision. -/
def sB (l : List Nat) : Nat → Nat
  | 0 => 0
  | t + 1 => fA .add .f64 (sB l t) (up64 (l[t]?.getD 0))
theorem zero64 : Ap .f64 0 0 0 := Ap.ex (k := .f64) (x := 0) (show Fnt double 0 by unfold Fnt; decide) (show sv double 0 = 0 by decide +kernel)
theorem sB_ap {l : List Nat} {n : Nat} {g : Nat → Rat} (h : Rw1 (1 / 300000) l n g) (hn : n ≤ 8) : ∀ t, t ≤ n → Ap .f64 (sB l t) (smN g t) ((t : Rat) / 200000) ∧ (t < n → (floatToFloatBits .f32 (l[t]?.getD 0) .f64).isSome = true ∧ (floatBits .add .f64 (sB l t) (up64 (l[t]?.getD 0))).isSome = true) := by
  have step : ∀ t, t < n → Ap .f64 (sB l t) (smN g t) ((t : Rat) / 200000) → ((floatToFloatBits .f32 (l[t]?.getD 0) .f64).isSome = true ∧ (floatBits .add .f64 (sB l t) (up64 (l[t]?.getD 0))).isSome = true) ∧ Ap .f64 (sB l (t + 1)) (smN g (t + 1)) (((t + 1 : Nat) : Rat) / 200000) := by
    intro t ht ih
    have l1 := h.le1 ht
    obtain ⟨v1, v2⟩ := up_ok ((h.el t ht).ap (e := 1 / 300000) (by grind))
    have nn : ∀ i, i < n → 0 ≤ g i := fun i hi => (h.el i hi).nn
    have s1 := smN_mono nn (t + 1) ht
    have s0 := smN_nonneg (f := g) (t + 1) (fun j hj => nn j (by omega))
    rw [h.one] at s1
    have tr := nat_rat (show t ≤ 8 by omega)
    rw [show ((8 : Nat) : Rat) = 8 from rfl] at tr
    simp only [smN] at s1 s0 ⊢
    obtain ⟨a1, a2⟩ := add64 ih v2 (by rw [av_of_nonneg s0]; grind) (by grind)
    refine ⟨⟨v1, a1⟩, a2.mono ?_⟩
    rw [nat_rat1]
    grind
  have all : ∀ t, t ≤ n → Ap .f64 (sB l t) (smN g t) ((t : Rat) / 200000) := by
    intro t
    induction t with
    | zero =>
      intro _
      rw [show (((0 : Nat) : Nat) : Rat) / 200000 = 0 by rw [show ((0 : Nat) : Rat) = 0 from rfl]; grind]
      exact zero64
    | succ t ih => intro ht; exact (step t (by omega) (ih (by omega))).2
  exact fun t ht => ⟨all t ht, fun hlt => (step t hlt (all t ht)).1⟩
/-- Near one. -/
theorem gapOne {X Y : Nat} {v u e d D : Rat} (hX : Ap .f64 X v e) (hY : Ap .f64 Y u d) (hD : av (v - u) ≤ D) (hD1 : D + e + d + 1 / 1000000000000 ≤ 9 / 10000) : gpOk X Y = true ∧ (FloatKind.f64.format.order (gpW X Y) w001 == some .gt) = false ∧ FloatKind.f64.format.order (gpW X Y) w001 = some .lt := by
  have h1 : av (sv double X - sv double Y) ≤ D + e + d := by
    have a := av_add_le hX.2 (show av (-(sv double Y - u)) ≤ d by rw [av_neg]; exact hY.2)
    have b := av_add_le a hD
    rw [show FloatKind.f64.format = double from rfl] at b
    rw [show sv double X - v + -(sv double Y - u) + (v - u) = sv double X - sv double Y by grind] at b
    grind
  obtain ⟨g1, g2, g3⟩ := gp_near hX.1 hY.1 (Rat.le_trans h1 (by grind))
  have g4 := Rat.le_trans (le_av _) g3
  have L0 := ap_lo w001_ap
  rw [show FloatKind.f64.format = double from rfl] at L0
  have hlt : sv double (gpW X Y) < sv double w001 := by grind
  exact ⟨g1, ord_gt_no g2 w001_ap.1 (Rat.le_of_lt hlt), ord_lt_yes g2 w001_ap.1 hlt⟩
def mostS (rs : List Nat) : Nat → Nat
  | 0 => 0
  | t + 1 => max (mostS rs t) (rs[t]?.getD 0)
/-- The words added up of what is told. -/
def rT (xs rs : List Nat) (a m : Nat) : Nat → Nat
  | 0 => 0
  | t + 1 => fA .add .f64 (rT xs rs a m t) (fA .mul .f64 (up64 (rs[bO xs rs a m t]?.getD 0)) (up64 (xs[bO xs rs a m t * m + t]?.getD 0)))
section
variable {xs rs : List Nat} {a m : Nat} {C : Nat → Nat → Rat} {p : Nat → Rat} (h : Chx xs a m C) (r : Rw1 (1 / 8000000) rs a p) (lo : ∀ i, i < a → 1 / 24 ≤ p i)
include h r lo
theorem Chx.fanoW : (floatToFloatBits .f32 (geS (tzO xs rs a m) a m) .f64).isSome = true ∧ (floatToFloatBits .f32 (bwO xs rs a m) .f64).isSome = true ∧ (floatBits .add .f64 (up64 (bwO xs rs a m)) w002).isSome = true ∧ (FloatKind.f64.format.order (up64 (geS (tzO xs rs a m) a m)) (fA .add .f64 (up64 (bwO xs rs a m)) w002) == some .gt) = false := by
  have T := h.turn r lo
  obtain ⟨G, _⟩ := T.gAp (by decide +kernel) (by decide +kernel)
  obtain ⟨_, _, _, _, _, B, Bb⟩ := h.bound r lo
  obtain ⟨R1, R2, _⟩ := h.rLe r lo
  have a1 := h.a1
  have F := fano (q := fun k i => p i * C i k) (m := m) (a := a) (b := bO xs rs a m) (R := RO xs rs a m C p) (P := 1 - RO xs rs a m C p) (fun k hk i hi => by have := (h.wlow r lo hi hk).1; grind) T.one (fun k _ => h.bLt rs k) a1 rfl rfl (by grind) (by grind)
  have F2 : Hg (fun k i => p i * C i k) m a ≤ bX a (RO xs rs a m C p) + 1 / 10000000000000 := F
  obtain ⟨v1, u1⟩ := up_ok G
  obtain ⟨v2, u2⟩ := up_ok B
  obtain ⟨q1, q2⟩ := add64 u2 w002_ap (Rat.le_trans (av_add_le Bb (show av (2 / 1000) ≤ 1 by decide +kernel)) (by decide +kernel)) (by decide +kernel)
  exact ⟨v1, v2, q1, not_gt u1 q2 (by grind)⟩
theorem Chx.back {k : Nat} (hk : k < m) : Rw1 (1 / 300000) (givenOf (tzO xs rs a m) a k) a (fun i => p i * C i k / smN (fun i => p i * C i k) a) := by
  have T := h.turn r lo
  have hr0 : smN ((fun k i => p i * C i k) k) a ≠ 0 := by
    have a1 := h.a1
    have t := term_le (f := fun i => p i * C i k) (n := a) (j := 0) (fun i hi => T.nn hk hi) (by omega)
    have w0 := (h.wlow r lo (i := 0) (by omega) hk).1
    show smN (fun i => p i * C i k) a ≠ 0
    intro hc
    rw [hc] at t
    have t' : p 0 * C 0 k ≤ 0 := t
    grind
  exact (T.given (by decide +kernel) (by decide +kernel) hk hr0).1
theorem Chx.backSum {k : Nat} (hk : k < m) : gpOk (sB (givenOf (tzO xs rs a m) a k) a) 4607182418800017408 = true ∧ (FloatKind.f64.format.order (gpW (sB (givenOf (tzO xs rs a m) a k) a) 4607182418800017408) w001 == some .gt) = false := by
  have B := h.back r lo hk
  have a2 := h.a2
  have S := (sB_ap B (by omega) a (Nat.le_refl _)).1
  rw [B.one] at S
  have ar := nat_rat a2
  rw [show ((4 : Nat) : Rat) = 4 from rfl] at ar
  have one : Ap .f64 4607182418800017408 1 0 := one_ap
  have g := gapOne S one (D := 0) (by decide +kernel) (by grind)
  exact ⟨g.1, g.2.1⟩
theorem Chx.backMax {k i : Nat} (hk : k < m) (hi : i < a) : (FloatKind.f32.format.order ((givenOf (tzO xs rs a m) a k)[i]?.getD 0) ((givenOf (tzO xs rs a m) a k)[bO xs rs a m k]?.getD 0) == some .gt) = false := by
  have T := h.turn r lo
  have B := h.back r lo hk
  have hb := h.bLt rs k
  have m1 := h.bMax rs (k := k) hi
  have hP := (T.part (by decide +kernel) (by decide +kernel) hk).1
  have w0 := (h.wlow r lo hi hk).1
  have hr0 : smN (fun i => p i * C i k) a ≠ 0 := by
    have t := term_le (f := fun i => p i * C i k) (n := a) (j := i) (fun i hi => T.nn hk hi) hi
    intro hc
    rw [hc] at t
    have t' : p i * C i k ≤ 0 := t
    grind
  have hs0 := (hP.pos (by decide +kernel) hr0).1
  have el : ∀ j, j < a → (givenOf (tzO xs rs a m) a k)[j]?.getD 0 = fA .quo .f32 ((tzO xs rs a m)[k * a + j]?.getD 0) (fsum (rowOf (tzO xs rs a m) a k)) := fun j hj => by
    have e1 := tb_rowAt (xs := tzO xs rs a m) (i := k) hj
    have e2 : j < (rowOf (tzO xs rs a m) a k).length := by rw [T.rowLen hk]; exact hj
    unfold givenOf divAll
    rw [List.getElem?_map]
    rw [List.getElem?_eq_getElem e2] at e1 ⊢
    rw [← e1]
    rfl
  have q := quo_mono m1 (T.el k hk _ hb).1 hs0 hP.1
  rw [← el i hi, ← el _ hb] at q
  have l1 := (B.el i hi).1
  have l2 := (B.el _ hb).1
  rw [show FloatKind.f32.format = single from rfl, order_pp (by omega) (by omega)]
  rcases Nat.lt_or_ge ((givenOf (tzO xs rs a m) a k)[i]?.getD 0) ((givenOf (tzO xs rs a m) a k)[bO xs rs a m k]?.getD 0) with hlt | hge
  · rw [Nat.compare_eq_lt.2 hlt]; rfl
  · rw [Nat.compare_eq_eq.2 (by omega)]; rfl
theorem Chx.rtAp : ∀ t, t ≤ m → Ap .f64 (rT xs rs a m t) (smN (fun k => p (bO xs rs a m k) * C (bO xs rs a m k) k) t) ((t : Rat) / 1000000) ∧ (t < m → (floatToFloatBits .f32 (rs[bO xs rs a m t]?.getD 0) .f64).isSome = true ∧ (floatToFloatBits .f32 (xs[bO xs rs a m t * m + t]?.getD 0) .f64).isSome = true ∧ (floatBits .mul .f64 (up64 (rs[bO xs rs a m t]?.getD 0)) (up64 (xs[bO xs rs a m t * m + t]?.getD 0))).isSome = true ∧ (floatBits .add .f64 (rT xs rs a m t) (fA .mul .f64 (up64 (rs[bO xs rs a m t]?.getD 0)) (up64 (xs[bO xs rs a m t * m + t]?.getD 0)))).isSome = true) := by
  have T := h.turn r lo
  have nn : ∀ k, k < m → 0 ≤ p (bO xs rs a m k) * C (bO xs rs a m k) k := fun k hk => T.nn hk (h.bLt rs k)
  have R1 : smN (fun k => p (bO xs rs a m k) * C (bO xs rs a m k) k) m ≤ 1 := by have := (h.rLe r lo).1; unfold RO at this; grind
  have step : ∀ t, t < m → Ap .f64 (rT xs rs a m t) (smN (fun k => p (bO xs rs a m k) * C (bO xs rs a m k) k) t) ((t : Rat) / 1000000) → ((floatToFloatBits .f32 (rs[bO xs rs a m t]?.getD 0) .f64).isSome = true ∧ (floatToFloatBits .f32 (xs[bO xs rs a m t * m + t]?.getD 0) .f64).isSome = true ∧ (floatBits .mul .f64 (up64 (rs[bO xs rs a m t]?.getD 0)) (up64 (xs[bO xs rs a m t * m + t]?.getD 0))).isSome = true ∧ (floatBits .add .f64 (rT xs rs a m t) (fA .mul .f64 (up64 (rs[bO xs rs a m t]?.getD 0)) (up64 (xs[bO xs rs a m t * m + t]?.getD 0)))).isSome = true) ∧ Ap .f64 (rT xs rs a m (t + 1)) (smN (fun k => p (bO xs rs a m k) * C (bO xs rs a m k) k) (t + 1)) (((t + 1 : Nat) : Rat) / 1000000) := by
    intro t ht ih
    have hb := h.bLt rs t
    have l1 := r.le1 hb
    have E := h.el _ hb t ht
    have lo2 := h.low _ hb t ht
    have c1 : C (bO xs rs a m t) t ≤ 1 := by
      have := le_part (p := C) (a := a) (m := m) (fun i hi k hk => (h.el i hi k hk).nn) hb ht
      rw [h.one _ hb] at this
      exact this
    obtain ⟨v1, u1⟩ := up_ok ((r.el _ hb).ap (e := 1 / 8000000) (by grind))
    obtain ⟨v2, u2⟩ := up_ok (E.ap (e := 1 / 8000000) (by grind))
    obtain ⟨x1, x2⟩ := ap_mul (k := .f64) (E := 1 / 3000000) u1 u2 (A := 1) (B := 1) (by rw [av_of_nonneg l1.1]; exact l1.2) (by rw [av_of_nonneg (by grind)]; exact c1) (by decide +kernel) (by decide +kernel)
    have s1 := smN_mono (f := fun k => p (bO xs rs a m k) * C (bO xs rs a m k) k) nn (t + 1) ht
    have s0 := smN_nonneg (f := fun k => p (bO xs rs a m k) * C (bO xs rs a m k) k) (t + 1) (fun j hj => nn j (by omega))
    have tr := nat_rat (show t ≤ 4 by have := h.m2; omega)
    rw [show ((4 : Nat) : Rat) = 4 from rfl] at tr
    simp only [smN] at s1 s0 ⊢
    obtain ⟨a1, a2⟩ := add64 ih x2 (by rw [av_of_nonneg s0]; grind) (by grind)
    refine ⟨⟨v1, v2, x1, a1⟩, a2.mono ?_⟩
    rw [nat_rat1]
    grind
  have all : ∀ t, t ≤ m → Ap .f64 (rT xs rs a m t) (smN (fun k => p (bO xs rs a m k) * C (bO xs rs a m k) k) t) ((t : Rat) / 1000000) := by
    intro t
    induction t with
    | zero =>
      intro _
      rw [show (((0 : Nat) : Nat) : Rat) / 1000000 = 0 by rw [show ((0 : Nat) : Rat) = 0 from rfl]; grind]
      exact zero64
    | succ t ih => intro ht; exact (step t (by omega) (ih (by omega))).2
  exact fun t ht => ⟨all t ht, fun hlt => (step t hlt (all t ht)).1⟩
omit h lo in
theorem most_ap : ∀ t, t ≤ a → mostS rs t < 2139095040 ∧ (mostS rs t = 0 ∨ ∃ j, j < t ∧ mostS rs t = rs[j]?.getD 0) := by
  intro t
  induction t with
  | zero => intro _; exact ⟨by unfold mostS; omega, .inl rfl⟩
  | succ t ih =>
    intro ht
    obtain ⟨i1, i2⟩ := ih (by omega)
    have l := (r.el t (by omega)).1
    simp only [mostS]
    rcases Nat.le_total (mostS rs t) (rs[t]?.getD 0) with e | e
    · rw [Nat.max_eq_right e]
      exact ⟨l, .inr ⟨t, by omega, rfl⟩⟩
    · rw [Nat.max_eq_left e]
      refine ⟨i1, ?_⟩
      rcases i2 with h0 | ⟨j, h1, h2⟩
      · exact .inl h0
      · exact .inr ⟨j, by omega, h2⟩
theorem Chx.last : (floatToFloatBits .f32 (mwO xs rs a m) .f64).isSome = true ∧ (floatToFloatBits .f32 (mostS rs a) .f64).isSome = true ∧ (floatBits .sub .f64 4607182418800017408 (up64 (mostS rs a))).isSome = true ∧ (floatBits .add .f64 (fA .sub .f64 4607182418800017408 (up64 (mostS rs a))) w001).isSome = true ∧ FloatKind.f64.format.order (up64 (mwO xs rs a m)) (fA .add .f64 (fA .sub .f64 4607182418800017408 (up64 (mostS rs a))) w001) = some .lt ∧
    (floatBits .sub .f64 4607182418800017408 (up64 (mwO xs rs a m))).isSome = true ∧ gpOk (rT xs rs a m m) (fA .sub .f64 4607182418800017408 (up64 (mwO xs rs a m))) = true ∧ FloatKind.f64.format.order (gpW (rT xs rs a m m) (fA .sub .f64 4607182418800017408 (up64 (mwO xs rs a m)))) w001 = some .lt := by
  obtain ⟨R1, R2, R3⟩ := h.rLe r lo
  obtain ⟨_, d, d0, d1, d2, M⟩ := h.miss r lo
  have mA := M.ap d1
  obtain ⟨v1, u1⟩ := up_ok mA
  obtain ⟨e1, e2⟩ := most_ap r a (Nat.le_refl _)
  have one : Ap .f64 4607182418800017408 1 0 := one_ap
  obtain ⟨q, hq0, hq1, hqR, hA⟩ : ∃ q : Rat, 0 ≤ q ∧ q ≤ 1 ∧ q ≤ RO xs rs a m C p + 1 / 200000 ∧ Ap .f32 (mostS rs a) q (1 / 4000000) := by
    rcases e2 with e2 | ⟨j, hj, e2⟩
    · exact ⟨0, Rat.le_refl, by decide +kernel, by grind, by rw [e2]; exact zero_ap.mono (by decide +kernel)⟩
    · have l := r.le1 hj
      exact ⟨p j, l.1, l.2, R3 j hj, by rw [e2]; exact (r.el j hj).ap (by grind)⟩
  obtain ⟨v2, u2⟩ := up_ok hA
  generalize hR : RO xs rs a m C p = R at *
  obtain ⟨s1, s2⟩ := sub64 one u2 (av_le (by grind) (by grind)) (by decide +kernel)
  obtain ⟨t1, t2⟩ := add64 s2 w001_ap (av_le (by grind) (by grind)) (by decide +kernel)
  obtain ⟨x1, x2⟩ := sub64 one u1 (av_le (by clear u1 mA M; grind) (by clear u1 mA M; grind)) (by decide +kernel)
  have T := (h.rtAp r lo m (Nat.le_refl _)).1
  rw [show smN (fun k => p (bO xs rs a m k) * C (bO xs rs a m k) k) m = R from hR] at T
  have mr := nat_rat h.m2
  rw [show ((4 : Nat) : Rat) = 4 from rfl] at mr
  have g := gapOne T x2 (D := 0) (by rw [show R - (1 - (1 - R)) = 0 by grind]; decide +kernel) (by grind)
  exact ⟨v1, v2, s1, t1, yes_lt u1 t2 (by grind), x1, g.1, g.2.2⟩
end

end Go.Proofs.Ytmocfnpbofeiiaa
