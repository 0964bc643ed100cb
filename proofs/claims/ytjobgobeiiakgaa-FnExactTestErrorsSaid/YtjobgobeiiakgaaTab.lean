/- Tables: valid ones, the sums of their rows. -/
import Derived.Test.YtjobgobeiiakgaaVld
import Derived.Test.YtjobgobeiiakgaaHrf
namespace Go.Proofs.Ytjobgobeiiakgaa
set_option linter.unusedSimpArgs false
set_option linter.unusedVariables false
open Go.RowKit


end Go.Proofs.Ytjobgobeiiakgaa
