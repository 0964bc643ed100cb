/- Runs of texts of bits. (BEGUN: the plain part.) -/
import Derived.Test.YtmconcfgldiceaaDoorRun
namespace Go.Proofs.YtmconcfgldiceaaDoor
set_option linter.unusedSimpArgs false
set_option linter.unusedVariables false
open Go.RowKit

/-- The last number of a list, one more. -/
def incLast (xs : List Int) : List Int := xs.set (xs.length - 1) (xs[xs.length - 1]?.getD 0 + 1)
/-- The runs of the first k letters. -/
def rsP (l : List UInt8) : Nat → List Int
  | 0 => []
  | k + 1 => if 0 < k ∧ l[k]? = l[k - 1]? then incLast (rsP l k) else rsP l k ++ [1]
theorem incLast_length (xs : List Int) : (incLast xs).length = xs.length := by simp [incLast]
theorem rsP_length (l : List UInt8) : ∀ k, (rsP l k).length ≤ k
  | 0 => Nat.le_refl _
  | k + 1 => by
    have := rsP_length l k
    unfold rsP
    split
    · rw [incLast_length]; omega
    · simp; omega
theorem incLast_app (xs : List Int) : incLast (xs ++ [0]) = xs ++ [1] := by
  simp [incLast]
theorem rsP_pos (l : List UInt8) : ∀ k, 0 < k → 0 < (rsP l k).length
  | 0, h => by omega
  | k + 1, _ => by
    unfold rsP
    split
    · rename_i h
      rw [incLast_length]
      exact rsP_pos l k h.1
    · simp
theorem rsP_bd (l : List UInt8) : ∀ k, ∀ x ∈ rsP l k, 0 ≤ x ∧ x ≤ (k : Int)
  | 0, x, h => by simp [rsP] at h
  | k + 1, x, h => by
    have ih := rsP_bd l k
    unfold rsP at h
    split at h
    · unfold incLast at h
      rcases List.mem_or_eq_of_mem_set h with h2 | h2
      · have := ih x h2; omega
      · subst h2
        cases hg : (rsP l k)[(rsP l k).length - 1]? with
        | none => simp; omega
        | some y =>
          have := ih y (List.mem_of_getElem? hg)
          simp; omega
    · rw [List.mem_append] at h
      rcases h with h2 | h2
      · have := ih x h2; omega
      · simp at h2; omega
def out_RunsOf (s : ByteArray) : List Int × Bool := if bitsOk s.data.toList then (rsP s.data.toList s.data.toList.length, true) else ([], false)

end Go.Proofs.YtmconcfgldiceaaDoor
