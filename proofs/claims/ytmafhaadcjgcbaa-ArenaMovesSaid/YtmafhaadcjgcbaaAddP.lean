import Derived.Test.YtmafhaadcjgcbaaMut3
import Derived.Test.YtmafhaadcjgcbaaGoal
import Derived.Test.YtmafhaadcjgcbaaATellsA
import Derived.Test.YtmafhaadcjgcbaaCopyK
set_option linter.unusedSimpArgs false
set_option linter.unusedVariables false
namespace Go.Proofs.Ytmafhaadcjgcbaa
open Go Go.RowKit

theorem rword_is {s : ByteArray} {b : Bool} (hs : s.size ≤ 9223372036854775807) (h : wordA s = b) (w : World) : Calls Try.prog 17 #[.string s] w fun e w' => e = .returned (.bool b) ∧ Below w.heap.size w w' :=
  (word_is hs h w).mono fun _ _ h => ⟨h.1, by rw [← h.2]; exact Below.refl _ _⟩
/-! ### A node more, in plain Lean -/
section
variable {m : AModel} {n0 : ANode}
end
section
variable {m : AModel} {parent a : Int} {role concept : ByteArray}
end
end Go.Proofs.Ytmafhaadcjgcbaa
