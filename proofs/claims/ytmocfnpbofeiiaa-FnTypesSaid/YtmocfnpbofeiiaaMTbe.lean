/- The entropy of a table. -/
import Derived.Test.YtmocfnpbofeiiaaMEnt
import Derived.Test.YtmocfnpbofeiiaaMTab
namespace Go.Proofs.Ytmocfnpbofeiiaa
set_option linter.unusedSimpArgs false
set_option linter.unusedVariables false
open Go.RowKit

theorem one_en {xs : List Nat} (h : oneB xs = true) : ∀ x ∈ xs, En x := fun x hx => by
  refine ⟨oneB_ch h x hx, Bd.of ?_⟩
  have h2 := (one_el h x hx).2
  show rg Ieee.single x ≤ _
  rw [rgs]
  have e : WK .f32 1 = 1073741824 := by decide
  rw [e]
  unfold W2 at h2
  omega
def out_TableEntropy (i j : Int) (xs : List Nat) : Nat × Bool := if validTb i j xs then (fz (entF xs), finB (entF xs)) else (0, false)
theorem nan0_TableEntropy (i j : Int) (_ : I64 i) (_ : I64 j) (xs : List Nat) (_ : ∀ x ∈ xs, x < 4294967296) (_ : xs.length ≤ 1048576) : nanB (out_TableEntropy i j xs).1 = false := by
  unfold out_TableEntropy
  split
  · exact fz_nan _
  · rfl
theorem te_no {i j : Int} {xs : List Nat} (h : validTb i j xs = false) : out_TableEntropy i j xs = (0, false) := by unfold out_TableEntropy; rw [h]; rfl
theorem te_yes {i j : Int} {xs : List Nat} (h : validTb i j xs = true) : out_TableEntropy i j xs = (fz (entF xs), finB (entF xs)) := by unfold out_TableEntropy; rw [h]; rfl

end Go.Proofs.Ytmocfnpbofeiiaa
