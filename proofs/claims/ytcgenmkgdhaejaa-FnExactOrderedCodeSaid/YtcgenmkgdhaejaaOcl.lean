/- The best tree with letters in order: what the law's walk imports. -/
import Derived.Test.YtcgenmkgdhaejaaOct
import Derived.Test.YtcgenmkgdhaejaaHrc
namespace Go.Proofs.Ytcgenmkgdhaejaa
set_option linter.unusedSimpArgs false
set_option linter.unusedVariables false
open Go.RowKit
theorem ocl_len (xs : List Int) : (out_OrderedCode xs).1.length ≤ (out_OrderedCode xs).1.length := Nat.le_refl _

end Go.Proofs.Ytcgenmkgdhaejaa
