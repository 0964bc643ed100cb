/- Where a merge of two sorted parts falls into two merges, plain. -/
import Derived.Test.YtjobgobeiiakgaaSeg
namespace Go.Proofs.Ytjobgobeiiakgaa
set_option linter.unusedSimpArgs false
set_option linter.unusedVariables false
open Go.RowKit

/-- Sorted: no later element is less. -/
abbrev NS (lt : Nat → Nat → Bool) (x y : Nat) : Prop := lt y x = false
theorem srt_le {lt : Nat → Nat → Bool} (h : SW lt) {A : List Nat} (hA : A.Pairwise (NS lt)) {p q : Nat} (hpq : p ≤ q) (hq : q < A.length) : lt (A[q]?.getD 0) (A[p]?.getD 0) = false := by
  by_cases e : p = q
  · subst e; exact h.irr _
  · have := List.pairwise_iff_getElem.1 hA p q (by omega) hq (by omega)
    rw [List.getElem?_eq_getElem hq, List.getElem?_eq_getElem (by omega)]
    exact this
theorem mem_take {A : List Nat} {i x : Nat} (h : x ∈ A.take i) : ∃ p, p < i ∧ p < A.length ∧ x = A[p]?.getD 0 := by
  obtain ⟨p, hp, rfl⟩ := List.mem_iff_getElem.1 h
  simp at hp
  exact ⟨p, by omega, by omega, by rw [List.getElem_take, List.getElem?_eq_getElem (by omega)]; rfl⟩
theorem mem_drop {A : List Nat} {i x : Nat} (h : x ∈ A.drop i) : ∃ p, i ≤ p ∧ p < A.length ∧ x = A[p]?.getD 0 := by
  obtain ⟨p, hp, rfl⟩ := List.mem_iff_getElem.1 h
  simp at hp
  exact ⟨i + p, by omega, by omega, by rw [List.getElem_drop, List.getElem?_eq_getElem (by omega)]; rfl⟩
theorem lt_up {lt : Nat → Nat → Bool} (h : SW lt) {x y z : Nat} (h1 : lt x y = true) (h2 : lt z y = false) : lt x z = true := by
  by_cases hc : lt x z = true
  · exact hc
  · have := h.neg x z y (by simpa using hc) h2
    rw [h1] at this; cases this
theorem lt_down {lt : Nat → Nat → Bool} (h : SW lt) {x y z : Nat} (h1 : lt x y = true) (h2 : lt x z = false) : lt z y = true := by
  by_cases hc : lt z y = true
  · exact hc
  · have := h.neg x z y h2 (by simpa using hc)
    rw [h1] at this; cases this
theorem mrg_cut {lt : Nat → Nat → Bool} (h : SW lt) {A B : List Nat} (hA : A.Pairwise (NS lt)) (hB : B.Pairwise (NS lt)) (i j : Nat) (hi : i ≤ A.length) (hj : j ≤ B.length)
    (c1 : i = 0 ∨ j = B.length ∨ lt (B[j]?.getD 0) (A[i - 1]?.getD 0) = false) (c2 : j = 0 ∨ i = A.length ∨ lt (B[j - 1]?.getD 0) (A[i]?.getD 0) = true) :
    mrg lt A B = mrg lt (A.take i) (B.take j) ++ mrg lt (A.drop i) (B.drop j) := by
  have := mrg_split lt _ (A.take i) (B.take j) (A.drop i) (B.drop j) rfl ?_ ?_
  · rw [List.take_append_drop, List.take_append_drop] at this; exact this
  · intro x hx y hy
    obtain ⟨p, p1, p2, rfl⟩ := mem_take hx
    obtain ⟨q, q1, q2, rfl⟩ := mem_drop hy
    rcases c1 with c | c | c
    · omega
    · omega
    · have s1 := srt_le h hA (show p ≤ i - 1 by omega) (by omega)
      have s2 := srt_le h hB q1 q2
      exact h.neg _ _ _ (h.neg _ _ _ s2 c) s1
  · intro y hy x hx
    obtain ⟨p, p1, p2, rfl⟩ := mem_take hy
    obtain ⟨q, q1, q2, rfl⟩ := mem_drop hx
    rcases c2 with c | c | c
    · omega
    · omega
    · have s1 := srt_le h hB (show p ≤ j - 1 by omega) (by omega)
      have s2 := srt_le h hA q1 q2
      exact lt_up h (lt_down h c s1) s2
/-- One element ahead of a sorted list: i is the first place whose element is not less. -/
theorem mrg_in {lt : Nat → Nat → Bool} (h : SW lt) {B : List Nat} (hB : B.Pairwise (NS lt)) (x i : Nat) (hi : i ≤ B.length) (c1 : i = B.length ∨ lt (B[i]?.getD 0) x = false) (c2 : i = 0 ∨ lt (B[i - 1]?.getD 0) x = true) :
    mrg lt [x] B = B.take i ++ x :: B.drop i := by
  have := mrg_one lt x (B.take i) (B.drop i) ?_ ?_
  · rw [List.take_append_drop] at this; exact this
  · intro y hy
    obtain ⟨p, p1, p2, rfl⟩ := mem_take hy
    rcases c2 with c | c
    · omega
    · exact lt_down h c (srt_le h hB (show p ≤ i - 1 by omega) (by omega))
  · intro y hy
    obtain ⟨p, p1, p2, rfl⟩ := mem_drop hy
    rcases c1 with c | c
    · omega
    · exact h.neg _ _ _ (srt_le h hB p1 p2) c
theorem mrg_end {lt : Nat → Nat → Bool} (h : SW lt) {A : List Nat} (hA : A.Pairwise (NS lt)) (y i : Nat) (hi : i ≤ A.length) (c1 : i = A.length ∨ lt y (A[i]?.getD 0) = true) (c2 : i = 0 ∨ lt y (A[i - 1]?.getD 0) = false) :
    mrg lt A [y] = A.take i ++ y :: A.drop i := by
  have := mrg_last lt y (A.take i) (A.drop i) ?_ ?_
  · rw [List.take_append_drop] at this; exact this
  · intro x hx
    obtain ⟨p, p1, p2, rfl⟩ := mem_take hx
    rcases c2 with c | c
    · omega
    · exact h.neg _ _ _ c (srt_le h hA (show p ≤ i - 1 by omega) (by omega))
  · intro x hx
    obtain ⟨p, p1, p2, rfl⟩ := mem_drop hx
    rcases c1 with c | c
    · omega
    · exact lt_up h c (srt_le h hA p1 p2)

end Go.Proofs.Ytjobgobeiiakgaa
