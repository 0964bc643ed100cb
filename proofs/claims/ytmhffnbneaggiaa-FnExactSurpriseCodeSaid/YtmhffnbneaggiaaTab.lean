/- Tables: valid ones, the sums of their rows. -/
import Derived.Test.YtmhffnbneaggiaaVld
import Derived.Test.YtmhffnbneaggiaaHrf
namespace Go.Proofs.Ytmhffnbneaggiaa
set_option linter.unusedSimpArgs false
set_option linter.unusedVariables false
open Go.RowKit


end Go.Proofs.Ytmhffnbneaggiaa
