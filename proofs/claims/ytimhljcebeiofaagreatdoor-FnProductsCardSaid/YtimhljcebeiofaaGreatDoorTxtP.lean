/- Texts of bits, plain: binary digits of numbers, runs of one letter. -/
import Derived.Test.YtimhljcebeiofaaGreatDoorBase
import Derived.WalkSmall
namespace Go.Proofs.YtimhljcebeiofaaGreatDoor
set_option linter.unusedSimpArgs false
set_option linter.unusedVariables false
open Go.RowKit

/-- Binary digit i of x, as a letter. -/
def dig (x i : Nat) : UInt8 := if x / 2 ^ i % 2 = 1 then 49 else 48
/-- The last d binary digits of x, from the greatest one on. -/
def digs (x d : Nat) : List UInt8 := (List.range d).map fun i => dig x (d - 1 - i)
theorem digs_length (x d : Nat) : (digs x d).length = d := by simp [digs]
theorem digs_get (x d i : Nat) (h : i < d) : (digs x d)[i]? = some (dig x (d - 1 - i)) := by
  simp [digs, h]
theorem digs_take_succ (x d j : Nat) (h : j < d) : (digs x d).take (j + 1) = (digs x d).take j ++ [dig x (d - 1 - j)] := by
  have hl : j < (digs x d).length := by rw [digs_length]; exact h
  rw [List.take_succ_eq_append_getElem hl]
  have h2 := digs_get x d j h
  rw [List.getElem?_eq_getElem hl] at h2
  rw [Option.some.inj h2]
theorem digs_drop_one (x d : Nat) : (digs x (d + 1)).drop 1 = digs x d := by
  apply List.ext_getElem?
  intro i
  rw [List.getElem?_drop]
  by_cases h : i < d
  · rw [digs_get _ _ _ (by omega), digs_get _ _ _ h]
    congr 2
    omega
  · rw [List.getElem?_eq_none (by rw [digs_length]; omega), List.getElem?_eq_none (by rw [digs_length]; omega)]
theorem dig_mod (x k i : Nat) (h : i < k) : dig (x % 2 ^ k) i = dig x i := by
  unfold dig
  have : x % 2 ^ k / 2 ^ i % 2 = x / 2 ^ i % 2 := by
    have hk : 2 ^ k = 2 ^ i * 2 ^ (k - i) := by rw [← Nat.pow_add]; congr 1; omega
    rw [hk, Nat.mod_mul_right_div_self]
    have h2 : 2 ^ (k - i) = 2 * 2 ^ (k - i - 1) := by rw [← Nat.pow_succ']; congr 1; omega
    rw [h2, Nat.mod_mul_right_mod]
  rw [this]
theorem digs_mod (x k : Nat) : digs (x % 2 ^ k) k = digs x k := by
  unfold digs
  apply List.map_congr_left
  intro i hi
  rw [List.mem_range] at hi
  exact dig_mod x k _ (by omega)
/-- How many binary digits a number has. -/
def blen (n : Nat) : Nat := if n = 0 then 0 else n.log2 + 1
theorem blen_half (n : Nat) (h : 0 < n) : blen n = blen (n / 2) + 1 := by
  unfold blen
  rw [if_neg (by omega)]
  by_cases h2 : n / 2 = 0
  · rw [if_pos h2]
    have : n = 1 := by omega
    subst this; decide
  · rw [if_neg h2, Nat.log2_def n, if_pos (by omega)]
theorem blen_le (n d : Nat) (h : n < 2 ^ d) : blen n ≤ d := by
  induction d generalizing n with
  | zero => have : n = 0 := by simpa using h
            subst this; decide
  | succ d ih =>
    by_cases h0 : n = 0
    · subst h0; exact Nat.zero_le _
    · rw [blen_half n (by omega)]
      have := ih (n / 2) (by rw [Nat.pow_succ] at h; omega)
      omega
theorem blen_pos (n : Nat) (h : 0 < n) : 1 ≤ blen n := by rw [blen_half n h]; omega
theorem i64_and1 (n : Int) : bits .and .i64 n 1 = n % 2 := by
  have h127 : (BitVec.ofInt 64 1).toNat = 2 ^ 1 - 1 := by decide
  have key : (BitVec.ofInt 64 n &&& BitVec.ofInt 64 1).toNat = (n % ((2 ^ 64 : Nat) : Int)).toNat % 2 ^ 1 := by
    rw [BitVec.toNat_and, BitVec.toNat_ofInt, h127, Nat.and_two_pow_sub_one_eq_mod]
  show IntKind.i64.wrap ((BitVec.ofInt 64 n &&& BitVec.ofInt 64 1).toNat : Nat) = n % 2
  rw [key, IntKind.wrap_i64]
  omega
theorem bit_of (x q : Nat) : bits .and .i64 ((x : Int) / 2 ^ q) 1 = ((x / 2 ^ q % 2 : Nat) : Int) := by
  rw [i64_and1]
  simp
theorem dig_one {x q : Nat} (h : x / 2 ^ q % 2 = 1) : dig x q = 49 := by unfold dig; rw [if_pos h]
theorem dig_zero {x q : Nat} (h : ¬ x / 2 ^ q % 2 = 1) : dig x q = 48 := by unfold dig; rw [if_neg h]
theorem bit_u64 (x q : Nat) (hx : x ≤ 18446744073709551615) : bits .and .u64 ((x : Int) / 2 ^ q) 1 = ((x / 2 ^ q % 2 : Nat) : Int) := by
  have e : ((x : Int) / 2 ^ q) = ((x / 2 ^ q : Nat) : Int) := by simp
  have h : x / 2 ^ q ≤ x := Nat.div_le_self ..
  rw [e, and_one_u64 _ (Int.natCast_nonneg _) (by omega)]
  simp

end Go.Proofs.YtimhljcebeiofaaGreatDoor
