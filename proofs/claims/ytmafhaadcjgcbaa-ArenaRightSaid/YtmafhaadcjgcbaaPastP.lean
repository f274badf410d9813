import Derived.Test.YtmafhaadcjgcbaaHData
import Derived.Test.YtmafhaadcjgcbaaACheck
import Derived.Test.YtmafhaadcjgcbaaASame
import Derived.Test.YtmafhaadcjgcbaaMutK
set_option linter.unusedSimpArgs false
set_option linter.unusedVariables false
/- pasts: what is done with them, and how they lie in memory -/
namespace Go.Proofs.Ytmafhaadcjgcbaa
open Go Go.RowKit

structure APast where
  ahead : List AModel
  here : AModel
  behind : List AModel
def APast.list (p : APast) : List AModel := p.ahead ++ p.here :: p.behind
section
variable {w w' : World} {F F' : Nat → Prop} {p : Nat} {P : APast}
end
theorem KeepO.keep {O F : Nat → Prop} {w w' : World} (h : KeepO O w w') (hF : ∀ b, F b → b < w.heap.size ∧ ¬ O b) : Keep F w w' := fun q hq => World.cell?_of_block (h.block q.block (hF _ hq).1 (hF _ hq).2)
end Go.Proofs.Ytmafhaadcjgcbaa
