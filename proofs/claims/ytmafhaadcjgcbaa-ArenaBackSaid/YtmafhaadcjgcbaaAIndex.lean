import Derived.Test.YtmafhaadcjgcbaaProg
import Derived.Test.YtmafhaadcjgcbaaAPlain
import Derived.Test.YtmafhaadcjgcbaaANodes
import Derived.Deep.LoopGhost
set_option linter.unusedSimpArgs false
set_option linter.unusedVariables false
namespace Go.Proofs.Ytmafhaadcjgcbaa
open Go Go.RowKit

end Go.Proofs.Ytmafhaadcjgcbaa
