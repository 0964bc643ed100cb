/- Hexadecimal digits, plain. -/
import Derived.Test.YtimhljcebeiofaaGreatDoorBase
namespace Go.Proofs.YtimhljcebeiofaaGreatDoor
set_option linter.unusedSimpArgs false
set_option linter.unusedVariables false
def dg (d : Nat) : UInt8 := UInt8.ofNat (if d < 10 then 48 + d else 87 + d)
/-- The hexadecimal digits of a number. -/
def dgs (n : Nat) : List Nat := if n < 16 then [n] else dgs (n / 16) ++ [n % 16]
termination_by n
decreasing_by omega
/-- The number of digits. -/
def hv (l : List Nat) : Nat := l.foldl (fun a d => 16 * a + d) 0
theorem dgs_lo {n : Nat} (h : n < 16) : dgs n = [n] := by rw [dgs, if_pos h]
theorem dgs_hi {n : Nat} (h : 16 ≤ n) : dgs n = dgs (n / 16) ++ [n % 16] := by rw [dgs, if_neg (by omega)]
theorem hv_snoc (l : List Nat) (d : Nat) : hv (l ++ [d]) = 16 * hv l + d := by simp [hv, List.foldl_append]
theorem hv_dgs (n : Nat) : hv (dgs n) = n := by
  induction n using Nat.strongRecOn with
  | _ n ih =>
    by_cases h : n < 16
    · rw [dgs_lo h]; simp [hv]
    · rw [dgs_hi (by omega), hv_snoc, ih _ (by omega)]; omega
theorem dgs_lt (n : Nat) : ∀ d ∈ dgs n, d < 16 := by
  induction n using Nat.strongRecOn with
  | _ n ih =>
    intro d hd
    by_cases h : n < 16
    · rw [dgs_lo h, List.mem_singleton] at hd; omega
    · rw [dgs_hi (by omega), List.mem_append, List.mem_singleton] at hd
      rcases hd with hd | hd
      · exact ih _ (by omega) d hd
      · omega
theorem dgs_len (n k : Nat) (hk : 1 ≤ k) (h : n < 16 ^ k) : (dgs n).length ≤ k := by
  induction k generalizing n with
  | zero => omega
  | succ k ih =>
    by_cases h1 : n < 16
    · rw [dgs_lo h1]; simp
    · rw [dgs_hi (by omega), List.length_append, List.length_singleton]
      rcases Nat.eq_zero_or_pos k with h0 | h0
      · subst h0; simp at h; omega
      · have := ih (n / 16) h0 (by rw [Nat.pow_succ] at h; omega)
        omega
theorem dgs_pos (n : Nat) : 1 ≤ (dgs n).length := by
  by_cases h : n < 16
  · rw [dgs_lo h]; simp
  · rw [dgs_hi (by omega)]; simp
/-- Eight digits. -/
def d8 (n : Nat) : List Nat := List.replicate (8 - (dgs n).length) 0 ++ dgs n
theorem d8_len {n : Nat} (h : n < 4294967296) : (d8 n).length = 8 := by
  have := dgs_len n 8 (by omega) (by simpa using h)
  simp [d8]; omega
theorem d8_lt (n : Nat) : ∀ d ∈ d8 n, d < 16 := by
  intro d hd
  unfold d8 at hd
  rcases List.mem_append.1 hd with h | h
  · rw [(List.mem_replicate.1 h).2]; omega
  · exact dgs_lt n d h
theorem hv_pad (k : Nat) (l : List Nat) : hv (List.replicate k 0 ++ l) = hv l := by
  have : ∀ k, (List.replicate k 0).foldl (fun a d => 16 * a + d) 0 = 0 := by
    intro k
    induction k with
    | zero => rfl
    | succ k ih => rw [List.replicate_succ, List.foldl_cons]; exact ih
  unfold hv
  rw [List.foldl_append, this]
theorem hv_d8 (n : Nat) : hv (d8 n) = n := by rw [d8, hv_pad, hv_dgs]
theorem hv_take (l : List Nat) {j : Nat} (h : j < l.length) : hv (l.take (j + 1)) = 16 * hv (l.take j) + l[j]?.getD 0 := by
  rw [List.take_succ_eq_append_getElem h, hv_snoc, List.getElem?_eq_getElem h]; rfl
theorem hv_mono (l : List Nat) : ∀ m j, j + m ≤ l.length → hv (l.take j) ≤ hv (l.take (j + m))
  | 0, _, _ => Nat.le_refl _
  | m + 1, j, h => by
    have a := hv_mono l m j (by omega)
    have b := hv_take l (j := j + m) (by omega)
    rw [← Nat.add_assoc, b]
    omega
theorem hv_le (l : List Nat) {j : Nat} (h : j ≤ l.length) : hv (l.take j) ≤ hv l := by
  have := hv_mono l (l.length - j) j (by omega)
  rwa [show j + (l.length - j) = l.length by omega, List.take_of_length_le (Nat.le_refl _)] at this
theorem dg_val : ∀ d : Nat, d < 16 → (48 ≤ (dg d).toNat ∧ (dg d).toNat ≤ 57 ∧ (dg d).toNat = 48 + d) ∨ (97 ≤ (dg d).toNat ∧ (dg d).toNat ≤ 102 ∧ (dg d).toNat = 87 + d) := by decide
def hexT (n : Nat) : List UInt8 := (dgs n).map dg
def hex8 (n : Nat) : List UInt8 := (d8 n).map dg
theorem hex8_eq (n : Nat) : hex8 n = List.replicate (8 - (hexT n).length) 48 ++ hexT n := by
  unfold hex8 hexT d8
  rw [List.map_append, List.map_replicate, List.length_map]
  rfl
theorem hex8_len {n : Nat} (h : n < 4294967296) : (hex8 n).length = 8 := by unfold hex8; rw [List.length_map, d8_len h]
theorem hex8_comma (n : Nat) : ∀ c ∈ hex8 n, c ≠ 44 := by
  intro c hc
  obtain ⟨d, hd, rfl⟩ := List.mem_map.1 hc
  have := d8_lt n d hd
  exact (by decide : ∀ d : Nat, d < 16 → dg d ≠ 44) d this

end Go.Proofs.YtimhljcebeiofaaGreatDoor
