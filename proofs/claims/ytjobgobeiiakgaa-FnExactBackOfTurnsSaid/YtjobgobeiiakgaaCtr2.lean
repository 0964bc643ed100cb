/- Contracts: what words take, weights, total lengths. -/
import Derived.Test.YtjobgobeiiakgaaCtr1
namespace Go.Proofs.Ytjobgobeiiakgaa
set_option linter.unusedSimpArgs false
set_option linter.unusedVariables false
open Go.RowKit

end Go.Proofs.Ytjobgobeiiakgaa
