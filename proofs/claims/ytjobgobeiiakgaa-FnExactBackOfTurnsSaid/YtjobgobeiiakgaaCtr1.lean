/- The contracts of the first functions, as the laws' walks take them. -/
import Derived.Test.YtjobgobeiiakgaaCod
namespace Go.Proofs.Ytjobgobeiiakgaa
set_option linter.unusedSimpArgs false
set_option linter.unusedVariables false
open Go.RowKit

end Go.Proofs.Ytjobgobeiiakgaa
