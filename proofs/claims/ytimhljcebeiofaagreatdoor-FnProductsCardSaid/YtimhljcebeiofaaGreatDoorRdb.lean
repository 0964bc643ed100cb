/- How lists of bytes read. -/
import Derived.Test.YtimhljcebeiofaaGreatDoorRd
import Derived.Test.YtimhljcebeiofaaGreatDoorSrc
namespace Go.Proofs.YtimhljcebeiofaaGreatDoor
set_option linter.unusedSimpArgs false
set_option linter.unusedVariables false
open Go.ChangeShapes Go.WideShapes Go.ChangeAt Go.RowKit Go.Deep Go.Joins
section
variable {H : Type} {enc : TypeId × Value → H} {P : Program} {W : World}
theorem rd_bytes {t e : TypeId} {fuel : Nat} {v : Value} {x : DataW H × List MemPlace} (ht : P.underlying t = some (.slice e)) (he : P.underlying e = some (.int .u8)) (hc : P.cellsOf e = 1)
    (h : DataW.trod enc P W 0 (fun _ => true) true fuel t [v] = some x) :
    ∃ (a : Option Addr) (c : Nat) (xs : List UInt8), v = .slice a xs.length c ∧ xs.length ≤ c ∧ c ≤ maxLen ∧ SlR W v (byv xs) ∧ ∀ z ∈ xs, True :=
  rd_slice (fun x : UInt8 => Value.int .u8 (x.toNat : Int)) (fun _ => True) ht hc (fun n u y hy => by
    obtain ⟨z, hz, _, hw⟩ := DataW.trod_int he hy
    simp only [List.cons.injEq, and_true] at hz
    simp [Lit.wf, IntKind.min, IntKind.max, IntKind.signed, IntKind.bits] at hw
    refine ⟨UInt8.ofNat z.toNat, ?_, trivial⟩
    rw [hz]
    congr 1
    rw [UInt8.toNat_ofNat']
    omega) h
end

end Go.Proofs.YtimhljcebeiofaaGreatDoor
