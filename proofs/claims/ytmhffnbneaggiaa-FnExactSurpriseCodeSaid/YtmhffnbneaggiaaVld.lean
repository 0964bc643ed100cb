/- Valid channels and tables. -/
import Derived.Test.YtmhffnbneaggiaaRws
namespace Go.Proofs.Ytmhffnbneaggiaa
set_option linter.unusedSimpArgs false
set_option linter.unusedVariables false
open Go.RowKit

def validCh (i j : Int) (xs : List Nat) : Bool := inB i 1 8 && inB j 1 8 && decide ((xs.length : Int) = i * j) && (List.range i.toNat).all (fun k => rowB (rowOf xs j.toNat k))
def validTb (i j : Int) (xs : List Nat) : Bool := inB i 1 8 && inB j 1 8 && decide ((xs.length : Int) = i * j) && oneB xs
theorem nat_of_inB {i : Int} (h : inB i 1 8 = true) : ∃ a : Nat, i = (a : Int) ∧ 1 ≤ a ∧ a ≤ 8 := by
  obtain ⟨h1, h2⟩ := inB_true h
  exact ⟨i.toNat, by omega, by omega, by omega⟩
theorem validCh_nat {i j : Int} {xs : List Nat} (h : validCh i j xs = true) : ∃ a m : Nat, i = (a : Int) ∧ j = (m : Int) ∧ 1 ≤ a ∧ a ≤ 8 ∧ 1 ≤ m ∧ m ≤ 8 ∧ xs.length = a * m ∧ ∀ k, k < a → rowB (rowOf xs m k) = true := by
  unfold validCh at h
  simp only [Bool.and_eq_true, decide_eq_true_eq] at h
  obtain ⟨⟨⟨h1, h2⟩, h3⟩, h4⟩ := h
  obtain ⟨a, rfl, a1, a2⟩ := nat_of_inB h1
  obtain ⟨m, rfl, m1, m2⟩ := nat_of_inB h2
  refine ⟨a, m, rfl, rfl, a1, a2, m1, m2, by exact_mod_cast h3, fun k hk => ?_⟩
  rw [List.all_eq_true] at h4
  exact h4 k (by simpa using hk)
theorem validTb_nat {i j : Int} {xs : List Nat} (h : validTb i j xs = true) : ∃ a m : Nat, i = (a : Int) ∧ j = (m : Int) ∧ 1 ≤ a ∧ a ≤ 8 ∧ 1 ≤ m ∧ m ≤ 8 ∧ xs.length = a * m ∧ oneB xs = true := by
  unfold validTb at h
  simp only [Bool.and_eq_true, decide_eq_true_eq] at h
  obtain ⟨⟨⟨h1, h2⟩, h3⟩, h4⟩ := h
  obtain ⟨a, rfl, a1, a2⟩ := nat_of_inB h1
  obtain ⟨m, rfl, m1, m2⟩ := nat_of_inB h2
  exact ⟨a, m, rfl, rfl, a1, a2, m1, m2, by exact_mod_cast h3, h4⟩
theorem prod_le {a m : Nat} (ha : a ≤ 8) (hm : m ≤ 8) : a * m ≤ 64 := Nat.mul_le_mul ha hm
theorem row_le {a m k : Nat} (h : k < a) : (k + 1) * m ≤ a * m := Nat.mul_le_mul_right m h
theorem range_take_succ {a k : Nat} (p : Nat → Bool) : (List.range (k + 1)).all p = ((List.range k).all p && p k) := by
  rw [List.range_succ, List.all_append]; simp
theorem range_all_false {a k : Nat} {p : Nat → Bool} (hk : k < a) (h : p k = false) : (List.range a).all p = false := by
  rw [List.all_eq_false]; exact ⟨k, by simpa using hk, by simp [h]⟩

end Go.Proofs.Ytmhffnbneaggiaa
