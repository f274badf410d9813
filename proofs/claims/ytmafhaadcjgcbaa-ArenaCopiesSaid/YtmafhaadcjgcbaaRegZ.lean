import Derived.Test.YtmafhaadcjgcbaaProg
import Derived.Test.YtmafhaadcjgcbaaAPlain
import Derived.Test.YtmafhaadcjgcbaaANodes
import Derived.Deep.LoopGhost
import Derived.Test.YtmafhaadcjgcbaaRegY
set_option linter.unusedSimpArgs false
set_option linter.unusedVariables false
section
namespace Go.Proofs.Ytmafhaadcjgcbaa
open Go Go.RowKit

end Go.Proofs.Ytmafhaadcjgcbaa
end
section
namespace Go.Proofs.Ytmafhaadcjgcbaa
open Go
section
variable {P : Program} {ops : Array Oper} {Q : Exit → Act → World → Prop} {md : Region.Mode} {S : World → Prop} {e : Nat}
end
end Go.Proofs.Ytmafhaadcjgcbaa
end
