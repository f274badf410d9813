import Derived.Test.YtgcbnndbeoekgaaMayR
import Derived.Test.YtgcbnndbeoekgaaBndP
import Derived.Test.YtgcbnndbeoekgaaTerm
set_option linter.unusedSimpArgs false
set_option linter.unusedVariables false
section
/- a term's text with what stands for holes in their places, as the document has it -/
namespace Go.Proofs.Ytgcbnndbeoekgaa
open Go Go.RowKit

end Go.Proofs.Ytgcbnndbeoekgaa
end
section
/- what comes of a bound that is applied, in plain Lean -/
namespace Go.Proofs.Ytgcbnndbeoekgaa
open Go Go.RowKit

open Classical in
noncomputable def bsOf (b : List ABind) : List (Nat × Fo) := if h : MayP b then (bnd_of h).choose else []
open Classical in
noncomputable def treeOf (l : List TN) : Fo := if h : rightI l = 0 then (good_tree h).choose else .nil
theorem bsOf_ok {b : List ABind} (h : MayP b) : Bnd b (bsOf b) := by unfold bsOf; rw [dif_pos h]; exact (bnd_of h).choose_spec
theorem treeOf_ok {l : List TN} (h : rightI l = 0) : (treeOf l).one ∧ (treeOf l).wf ∧ l = (treeOf l).flat 0 ∧ (treeOf l).size ≤ 256 := by unfold treeOf; rw [dif_pos h]; exact (good_tree h).choose_spec
section
variable {b : List ABind} {l : List TN}
end
end Go.Proofs.Ytgcbnndbeoekgaa
end
