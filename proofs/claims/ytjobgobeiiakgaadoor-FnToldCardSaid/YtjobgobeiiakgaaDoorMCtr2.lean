/- The contracts of the first functions, as the laws' walks take them. -/
import Derived.Test.YtjobgobeiiakgaaDoorMCod
namespace Go.Proofs.YtjobgobeiiakgaaDoor
set_option linter.unusedSimpArgs false
set_option linter.unusedVariables false
open Go.RowKit

end Go.Proofs.YtjobgobeiiakgaaDoor

/- Contracts: what words take, weights, total lengths. -/
namespace Go.Proofs.YtjobgobeiiakgaaDoor
set_option linter.unusedSimpArgs false
set_option linter.unusedVariables false
open Go.RowKit
theorem inB_get {xs : List Int} {lo hi : Int} (h : xs.all (fun n => inB n lo hi) = true) {k : Nat} (hk : k < xs.length) : lo ≤ xs[k]?.getD 0 ∧ xs[k]?.getD 0 ≤ hi := by
  rw [List.getElem?_eq_getElem hk]; exact inB_true (List.all_eq_true.1 h _ (List.getElem_mem hk))

end Go.Proofs.YtjobgobeiiakgaaDoor
