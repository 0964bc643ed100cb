/- The harness of the laws for slices of texts. -/
import Derived.Test.YtjobgobeiiakgaaDoorPfx3
import Derived.Test.YtjobgobeiiakgaaDoorHar
import Derived.Test.YtjobgobeiiakgaaDoorRd
namespace Go.Proofs.YtjobgobeiiakgaaDoor
set_option linter.unusedSimpArgs false
set_option linter.unusedVariables false
open Go.RowKit
open Go.ChangeShapes Go.WideShapes Go.ChangeAt Go.Deep Go.Joins in
theorem rd_strs {H : Type} {enc : TypeId × Value → H} {P : Program} {W : World} {t e : TypeId} {fuel : Nat} {v : Value} {x : DataW H × List MemPlace} (ht : P.underlying t = some (.slice e)) (he : P.underlying e = some .string) (hc : P.cellsOf e = 1)
    (h : DataW.trod enc P W 0 (fun _ => true) true fuel t [v] = some x) :
    ∃ (a : Option Addr) (c : Nat) (xs : List ByteArray), v = .slice a xs.length c ∧ xs.length ≤ c ∧ c ≤ maxLen ∧ SlR W v (xs.map Value.string) ∧ ∀ z ∈ xs, z.size ≤ 9223372036854775807 :=
  rd_slice Value.string (fun z => z.size ≤ 9223372036854775807) ht hc (fun n u y hy => by
    obtain ⟨z, hz, _, hw⟩ := DataW.trod_string he hy
    simp only [List.cons.injEq, and_true] at hz
    exact ⟨z, hz, by unfold maxLen at hw; omega⟩) h

end Go.Proofs.YtjobgobeiiakgaaDoor
