/- The contracts of the first functions, as the laws' walks take them. -/
import Derived.Test.YtcgenmkgdhaejaaCod
namespace Go.Proofs.Ytcgenmkgdhaejaa
set_option linter.unusedSimpArgs false
set_option linter.unusedVariables false
open Go.RowKit

end Go.Proofs.Ytcgenmkgdhaejaa
