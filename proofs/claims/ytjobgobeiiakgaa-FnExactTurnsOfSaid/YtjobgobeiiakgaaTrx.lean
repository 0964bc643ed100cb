/- Turns of texts: both sides of TurnsOf. -/
import Derived.Test.YtjobgobeiiakgaaTrw
import Derived.Test.YtjobgobeiiakgaaTrs
namespace Go.Proofs.Ytjobgobeiiakgaa
set_option linter.unusedSimpArgs false
set_option linter.unusedVariables false

end Go.Proofs.Ytjobgobeiiakgaa
