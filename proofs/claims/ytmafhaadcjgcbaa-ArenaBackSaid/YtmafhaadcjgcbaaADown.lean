import Derived.Test.YtmafhaadcjgcbaaAIn
set_option linter.unusedSimpArgs false
set_option linter.unusedVariables false
namespace Go.Proofs.Ytmafhaadcjgcbaa
open Go Go.RowKit

def spread (m : AModel) (l : List Int) : List Int := l.flatMap fun k => k :: belowL m k
/-- the state of the walk by a stack: at the start, or behind it -/
def Stk (m : AModel) (x : ANode) (g : Nat) (out stack : List Int) : Prop :=
  (out = [] ∧ stack = [x.id] ∧ g = (belowL m x.id).length + 1) ∨ (out ++ spread m stack.reverse = belowL m x.id ∧ g = (spread m stack.reverse).length)
theorem Stk.done {m : AModel} {x : ANode} {g : Nat} {out : List Int} (h : Stk m x g out []) : out = belowL m x.id := by
  rcases h with ⟨_, h, _⟩ | ⟨h, _⟩
  · cases h
  · simpa [spread] using h
end Go.Proofs.Ytmafhaadcjgcbaa
