import Derived.Test.YtgcbnndbeoekgaaApplyP
import Derived.Test.YtgcbnndbeoekgaaWide
import Derived.Test.YtgcbnndbeoekgaaNodesX
set_option linter.unusedSimpArgs false
set_option linter.unusedVariables false
/- the document's copy of a term -/
namespace Go.Proofs.Ytgcbnndbeoekgaa
open Go Go.RowKit

end Go.Proofs.Ytgcbnndbeoekgaa
