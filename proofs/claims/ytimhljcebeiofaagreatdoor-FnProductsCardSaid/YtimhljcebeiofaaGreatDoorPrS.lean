/- Texts joined by commas and cut again, plain. -/
import Derived.Test.YtimhljcebeiofaaGreatDoorPrH
import Derived.Lib.Split
import Derived.Lib.CountLaws
import Derived.Lib.IndexBytes
import Derived.Lib.Join
namespace Go.Proofs.YtimhljcebeiofaaGreatDoor
set_option linter.unusedSimpArgs false
set_option linter.unusedVariables false
open Go.Lib
theorem ib_miss (c : UInt8) : ∀ (l : List UInt8), (∀ x ∈ l, x ≠ c) → indexByte l c = -1
  | [], _ => rfl
  | x :: l, h => by
    have h1 := h x List.mem_cons_self
    have h2 := ib_miss c l (fun y hy => h y (List.mem_cons_of_mem _ hy))
    unfold indexByte
    rw [h2]
    simp [h1]
theorem ib_hit (c : UInt8) : ∀ (l r : List UInt8), (∀ x ∈ l, x ≠ c) → indexByte (l ++ c :: r) c = (l.length : Int)
  | [], r, _ => by simp [indexByte]
  | x :: l, r, h => by
    have h1 := h x List.mem_cons_self
    have h2 := ib_hit c l r (fun y hy => h y (List.mem_cons_of_mem _ hy))
    rw [List.cons_append]
    unfold indexByte
    rw [h2]
    simp [h1]
theorem join_two (p q : List UInt8) (r : List (List UInt8)) : join (p :: q :: r) [44] = p ++ 44 :: join (q :: r) [44] := by
  rw [join_cons, join_cons]; simp [joinTail]
theorem split_join : ∀ ps : List (List UInt8), ps ≠ [] → (∀ p ∈ ps, ∀ x ∈ p, x ≠ 44) → count (join ps [44]) [44] + 1 = ps.length ∧ splitK [44] 0 (count (join ps [44]) [44]) (join ps [44]) = ps
  | [], h, _ => absurd rfl h
  | [p], _, h => by
    have e : index p [44] = -1 := by rw [index_one]; exact ib_miss 44 p (h p List.mem_cons_self)
    rw [join_one, count_miss e]
    exact ⟨rfl, rfl⟩
  | p :: q :: r, _, h => by
    obtain ⟨i1, i2⟩ := split_join (q :: r) (by simp) (fun y hy => h y (List.mem_cons_of_mem _ hy))
    rw [join_two]
    generalize join (q :: r) [44] = J at *
    have e : index (p ++ 44 :: J) [44] = (p.length : Int) := by rw [index_one]; exact ib_hit 44 p J (h p List.mem_cons_self)
    have d : (p ++ 44 :: J).drop (p.length + 1) = J := by simp
    have c := count_hit (sub := [44]) (by simp) e
    rw [show ([44] : List UInt8).length = 1 from rfl, d] at c
    rw [c, Nat.add_comm 1]
    refine ⟨by simp only [List.length_cons] at i1 ⊢; omega, ?_⟩
    unfold splitK
    rw [e]
    simp [i2]

end Go.Proofs.YtimhljcebeiofaaGreatDoor
