/- The harness of the laws on floats: marks; channels and tables. -/
import Derived.Test.YtmhffnbneaggiaaHrf
namespace Go.Proofs.Ytmhffnbneaggiaa
set_option linter.unusedSimpArgs false
set_option linter.unusedVariables false
open Go.RowKit

end Go.Proofs.Ytmhffnbneaggiaa
