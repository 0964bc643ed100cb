/- Numbers read back from their bits: plain. -/
import Derived.Test.YtcgenmkgdhaejaaDoorFib2
import Derived.Test.YtcgenmkgdhaejaaDoorRic
namespace Go.Proofs.YtcgenmkgdhaejaaDoor
set_option linter.unusedSimpArgs false
set_option linter.unusedVariables false
open Go.RowKit

/-- How many letters at the beginning are c. -/
def lead (c : UInt8) : List UInt8 → Nat
  | [] => 0
  | x :: r => if x = c then lead c r + 1 else 0
/-- How many letters at the beginning are others than c. -/
def untl (c : UInt8) : List UInt8 → Nat
  | [] => 0
  | x :: r => if x = c then 0 else untl c r + 1
theorem lead_rep (c x : UInt8) (h : x ≠ c) (t : List UInt8) : ∀ m, lead c (List.replicate m c ++ x :: t) = m
  | 0 => by show (if x = c then _ else _) = _; rw [if_neg h]
  | m + 1 => by
    rw [List.replicate_succ, List.cons_append]
    show (if c = c then _ else _) = _
    rw [if_pos rfl, lead_rep c x h t m]
theorem untl_rep (c x : UInt8) (h : c ≠ x) (t : List UInt8) : ∀ m, untl x (List.replicate m c ++ x :: t) = m
  | 0 => by show (if x = x then _ else _) = _; rw [if_pos rfl]
  | m + 1 => by
    rw [List.replicate_succ, List.cons_append]
    show (if c = x then _ else _) = _
    rw [if_neg h, untl_rep c x h t m]
theorem lead_le (c : UInt8) : ∀ l, lead c l ≤ l.length
  | [] => Nat.zero_le _
  | x :: r => by
    have := lead_le c r
    unfold lead
    split <;> simp <;> omega
theorem untl_le (c : UInt8) : ∀ l, untl c l ≤ l.length
  | [] => Nat.zero_le _
  | x :: r => by
    have := untl_le c r
    unfold untl
    split <;> simp <;> omega
def bit (c : UInt8) : Nat := if c = 49 then 1 else 0
/-- The number of binary digits. -/
def valA (a : Nat) : List UInt8 → Nat
  | [] => a
  | c :: r => valA (2 * a + bit c) r
/-- The number of d binary digits, those that are missing being 0. -/
def vpA (a : Nat) : List UInt8 → Nat → Nat
  | _, 0 => a
  | [], d + 1 => vpA (2 * a) [] d
  | c :: r, d + 1 => vpA (2 * a + bit c) r d
theorem vpA_app (t : List UInt8) : ∀ (l : List UInt8) (a : Nat), vpA a (l ++ t) l.length = valA a l
  | [], a => by cases t <;> rfl
  | c :: r, a => by
    show vpA (2 * a + bit c) (r ++ t) r.length = _
    rw [vpA_app t r]; rfl
theorem digs_cons (x d : Nat) : digs x (d + 1) = dig x d :: digs x d := by
  apply List.ext_getElem?
  intro i
  cases i with
  | zero => rw [digs_get _ _ _ (by omega)]; simp
  | succ i =>
    by_cases h : i < d
    · rw [digs_get _ _ _ (by omega), List.getElem?_cons_succ, digs_get _ _ _ h, show d + 1 - 1 - (i + 1) = d - 1 - i by omega]
    · rw [List.getElem?_eq_none (by rw [digs_length]; omega), List.getElem?_eq_none (by rw [List.length_cons, digs_length]; omega)]
theorem bit_dig (x d : Nat) : bit (dig x d) = x / 2 ^ d % 2 := by
  unfold bit dig
  by_cases h : x / 2 ^ d % 2 = 1
  · rw [if_pos h, if_pos rfl, h]
  · rw [if_neg h, if_neg (by decide)]; omega
theorem valA_digs (x : Nat) : ∀ d a, valA a (digs x d) = a * 2 ^ d + x % 2 ^ d
  | 0, a => by
    show a = _
    simp [Nat.mod_one]
  | d + 1, a => by
    rw [digs_cons]
    show valA (2 * a + bit (dig x d)) (digs x d) = _
    rw [valA_digs x d, bit_dig, Nat.mod_pow_succ, Nat.pow_succ, Nat.add_mul, Nat.mul_comm (2 ^ d) (x / 2 ^ d % 2), show 2 * a * 2 ^ d = a * (2 ^ d * 2) by rw [Nat.mul_comm 2 a, Nat.mul_assoc, Nat.mul_comm 2]]
    omega
theorem lt_blen {n : Nat} : n < 2 ^ blen n := by
  unfold blen
  split
  · subst_vars; decide
  · exact Nat.lt_log2_self
theorem val_blen (n : Nat) : valA 0 (digs n (blen n)) = n := by
  rw [valA_digs, Nat.mod_eq_of_lt lt_blen]; omega
theorem top_dig {n : Nat} (h : 1 ≤ n) : dig n (blen n - 1) = 49 := by
  have h0 : n ≠ 0 := by omega
  have e : blen n - 1 = n.log2 := by unfold blen; rw [if_neg h0]; omega
  rw [e]
  apply dig_one
  have h1 := Nat.log2_self_le h0
  have h2 : n < 2 ^ (n.log2 + 1) := Nat.lt_log2_self
  rw [Nat.pow_succ] at h2
  have h3 : n / 2 ^ n.log2 = 1 := by
    apply Nat.div_eq_of_lt_le
    · omega
    · omega
  rw [h3]
theorem digs_blen {n : Nat} (h : 1 ≤ n) : digs n (blen n) = 49 :: digs n (blen n - 1) := by
  have hp := blen_pos n h
  obtain ⟨d, hd⟩ : ∃ d, blen n = d + 1 := ⟨blen n - 1, by omega⟩
  have ht := top_dig h
  rw [hd] at ht ⊢
  rw [digs_cons]
  rw [show d + 1 - 1 = d from rfl] at ht ⊢
  rw [ht]
theorem val_short {n : Nat} (h : 1 ≤ n) : n = 2 ^ (blen n - 1) + valA 0 (digs n (blen n - 1)) := by
  have h1 := val_blen n
  rw [digs_blen h] at h1
  have h2 : valA 0 (49 :: digs n (blen n - 1)) = valA 1 (digs n (blen n - 1)) := rfl
  rw [h2, valA_digs] at h1
  rw [valA_digs]
  omega

end Go.Proofs.YtcgenmkgdhaejaaDoor
