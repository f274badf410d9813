import Derived.Test.YtgcbnndbeoekgaaPut15
import Derived.Deep.Slices
set_option linter.unusedSimpArgs false
set_option linter.unusedVariables false
/- unify.Apply -/
namespace Go.Proofs.Ytgcbnndbeoekgaa
open Go Go.RowKit Go.Maps

end Go.Proofs.Ytgcbnndbeoekgaa
