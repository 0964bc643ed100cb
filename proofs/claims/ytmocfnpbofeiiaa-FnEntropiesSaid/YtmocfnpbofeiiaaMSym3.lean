/- The library's stable sort: two sorted parts merged, the plain part of the halving. -/
import Derived.Test.YtmocfnpbofeiiaaMFym2
namespace Go.Proofs.Ytmocfnpbofeiiaa
set_option linter.unusedSimpArgs false
set_option linter.unusedVariables false
open Go.RowKit
theorem symRot (P A B S : List Nat) (m i j : Nat) (hm : P.length + A.length = m) (hi : i ≤ A.length) (hj : j ≤ B.length) :
    Rot (P ++ (A ++ (B ++ S))) m (A.length - i) j (P ++ (A.take i ++ (B.take j ++ (A.drop i ++ (B.drop j ++ S))))) := by
  refine ⟨P ++ A.take i, A.drop i, B.take j, B.drop j ++ S, ?_, by simp; omega, by simp, by simp; omega, by simp [List.append_assoc]⟩
  have e1 := List.take_append_drop i A
  have e2 := List.take_append_drop j B
  calc P ++ (A ++ (B ++ S)) = P ++ ((A.take i ++ A.drop i) ++ ((B.take j ++ B.drop j) ++ S)) := by rw [e1, e2]
    _ = _ := by simp only [List.append_assoc]
theorem symStay (P A B S : List Nat) (i j : Nat) (h : i = A.length ∨ j = 0) (hi : i ≤ A.length) : P ++ (A.take i ++ (B.take j ++ (A.drop i ++ (B.drop j ++ S)))) = P ++ (A ++ (B ++ S)) := by
  rcases h with rfl | rfl
  · rw [List.take_length, List.drop_length, List.nil_append, ← List.append_assoc (B.take j), List.take_append_drop]
  · rw [List.take_zero, List.drop_zero, List.nil_append, ← List.append_assoc (A.take i), List.take_append_drop]
theorem symA_get (P A B S : List Nat) (t k : Nat) (h : t < A.length) (hk : k = P.length + t) : (P ++ (A ++ (B ++ S)))[k]?.getD 0 = A[t]?.getD 0 := by
  rw [hk, List.getElem?_append_right (by omega), show P.length + t - P.length = t by omega, List.getElem?_append_left h]
theorem symB_get (P A B S : List Nat) (t k : Nat) (h : t < B.length) (hk : k = P.length + A.length + t) : (P ++ (A ++ (B ++ S)))[k]?.getD 0 = B[t]?.getD 0 := by
  rw [hk, List.getElem?_append_right (by omega), List.getElem?_append_right (by omega), show P.length + A.length + t - P.length - A.length = t by omega, List.getElem?_append_left h]
/-- The halving search between the two parts, and the place that it finds. -/
theorem symCut {lt : Nat → Nat → Bool} (hsw : SW lt) {P A B S l : List Nat} {a m b mid s lo hi : Nat} (hl : l = P ++ (A ++ (B ++ S))) (ha : P.length = a) (hm : a + A.length = m) (hb : m + B.length = b) (hA : A.Pairwise (NS lt)) (hB : B.Pairwise (NS lt))
    (hmid : mid = (a + b) / 2) (hlo : (mid < m ∧ lo = mid + m - b ∧ b ≤ mid + m ∧ hi = mid) ∨ (m ≤ mid ∧ lo = a ∧ hi = m)) (hlo1 : a ≤ lo)
    (hbs : Bs (fun c => !(lt (l[mid + m - 1 - c]?.getD 0) (l[c]?.getD 0))) lo hi s s) :
    ∃ i j, s = a + i ∧ mid + m - s = m + j ∧ i ≤ A.length ∧ j ≤ B.length ∧ i + j = mid - a ∧ mrg lt A B = mrg lt (A.take i) (B.take j) ++ mrg lt (A.drop i) (B.drop j) := by
  obtain ⟨h1, -, h2, h3, h4⟩ := hbs
  have hsm : s ≤ m := by omega
  have hs2 : s ≤ mid := by omega
  have hs3 : mid + m - s ≤ b := by omega
  refine ⟨s - a, mid - s, by omega, by omega, by omega, by omega, by omega, mrg_cut hsw hA hB _ _ (by omega) (by omega) ?_ ?_⟩
  · rcases h3 with h | h
    · omega
    · by_cases c1 : s - a = 0
      · exact Or.inl c1
      · by_cases c2 : mid - s = B.length
        · exact Or.inr (Or.inl c2)
        · right; right
          rw [← symB_get P A B S (mid - s) (mid + m - 1 - (s - 1)) (by omega) (by omega), ← symA_get P A B S (s - a - 1) (s - 1) (by omega) (by omega), ← hl]
          simpa using h
  · rcases h4 with h | h
    · omega
    · by_cases c1 : mid - s = 0
      · exact Or.inl c1
      · by_cases c2 : s - a = A.length
        · exact Or.inr (Or.inl c2)
        · right; right
          rw [← symB_get P A B S (mid - s - 1) (mid + m - 1 - s) (by omega) (by omega), ← symA_get P A B S (s - a) s (by omega) (by omega), ← hl]
          simpa using h
/-- The list once its middle parts have changed places. -/
abbrev symL1 (P A C S : List Nat) (x y : Nat) : List Nat := P ++ (A.take x ++ (C.take y ++ (A.drop x ++ (C.drop y ++ S))))
/-- The list once the lower half is merged. -/
abbrev symL2 (lt : Nat → Nat → Bool) (P A C S : List Nat) (x y : Nat) : List Nat := P ++ (mrg lt (A.take x) (C.take y) ++ (A.drop x ++ (C.drop y ++ S)))
theorem symOne (lt : Nat → Nat → Bool) (P A C S : List Nat) (x y : Nat) (h : x = 0 ∨ y = 0) : symL1 P A C S x y = symL2 lt P A C S x y := by
  rcases h with rfl | rfl
  · simp [symL1, symL2, nil_mrg]
  · simp [symL1, symL2, mrg_nil]
theorem symTwo {lt : Nat → Nat → Bool} {P A C S : List Nat} {x y : Nat} (hcut : mrg lt A C = mrg lt (A.take x) (C.take y) ++ mrg lt (A.drop x) (C.drop y)) (h : x = A.length ∨ y = C.length) : symL2 lt P A C S x y = P ++ (mrg lt A C ++ S) := by
  rw [hcut]
  rcases h with rfl | rfl
  · simp [symL2, nil_mrg]
  · simp [symL2, mrg_nil]
theorem mrg_mem {lt : Nat → Nat → Bool} {A C : List Nat} {z : Nat} : z ∈ mrg lt A C ↔ z ∈ A ∨ z ∈ C := by
  rw [(mrg_perm lt _ A C rfl).mem_iff, List.mem_append]
theorem mrg_len (lt : Nat → Nat → Bool) (A C : List Nat) : (mrg lt A C).length = A.length + C.length := by
  rw [(mrg_perm lt _ A C rfl).length_eq, List.length_append]
theorem symL2_mem {lt : Nat → Nat → Bool} {P A C S : List Nat} {x y N : Nat} (h : ∀ z ∈ P ++ (A ++ (C ++ S)), z < N) : ∀ z ∈ symL2 lt P A C S x y, z < N := by
  intro z hz
  apply h
  simp only [symL2, List.mem_append, mrg_mem] at hz ⊢
  rcases hz with h | (h | h) | h | h | h
  · exact Or.inl h
  · exact Or.inr (Or.inl (List.mem_of_mem_take h))
  · exact Or.inr (Or.inr (Or.inl (List.mem_of_mem_take h)))
  · exact Or.inr (Or.inl (List.mem_of_mem_drop h))
  · exact Or.inr (Or.inr (Or.inl (List.mem_of_mem_drop h)))
  · exact Or.inr (Or.inr (Or.inr h))
theorem symL1_mem {P A C S : List Nat} {x y N : Nat} (h : ∀ z ∈ P ++ (A ++ (C ++ S)), z < N) : ∀ z ∈ symL1 P A C S x y, z < N := by
  intro z hz
  apply h
  simp only [symL1, List.mem_append] at hz ⊢
  rcases hz with h | h | h | h | h | h
  · exact Or.inl h
  · exact Or.inr (Or.inl (List.mem_of_mem_take h))
  · exact Or.inr (Or.inr (Or.inl (List.mem_of_mem_take h)))
  · exact Or.inr (Or.inl (List.mem_of_mem_drop h))
  · exact Or.inr (Or.inr (Or.inl (List.mem_of_mem_drop h)))
  · exact Or.inr (Or.inr (Or.inr h))
theorem symL1_len (P A C S : List Nat) (x y : Nat) : (symL1 P A C S x y).length = (P ++ (A ++ (C ++ S))).length := by
  have e1 := congrArg List.length (List.take_append_drop x A)
  have e2 := congrArg List.length (List.take_append_drop y C)
  simp only [symL1, List.length_append] at e1 e2 ⊢
  omega
theorem symL2_len (lt : Nat → Nat → Bool) (P A C S : List Nat) (x y : Nat) : (symL2 lt P A C S x y).length = (P ++ (A ++ (C ++ S))).length := by
  have e1 := congrArg List.length (List.take_append_drop x A)
  have e2 := congrArg List.length (List.take_append_drop y C)
  simp only [symL2, List.length_append, mrg_len] at e1 e2 ⊢
  omega

end Go.Proofs.Ytmocfnpbofeiiaa
