import Derived.Test.YtmafhaadcjgcbaaAIn
import Derived.Test.YtmafhaadcjgcbaaALentP
import Derived.Test.YtmafhaadcjgcbaaRegX
import Derived.Test.YtmafhaadcjgcbaaACheck
set_option linter.unusedSimpArgs false
set_option linter.unusedVariables false
section
namespace Go.Proofs.Ytmafhaadcjgcbaa
open Go Go.RowKit

def spread (m : AModel) (l : List Int) : List Int := l.flatMap fun k => k :: belowL m k
/-- the state of the walk by a stack: at the start, or behind it -/
def Stk (m : AModel) (x : ANode) (g : Nat) (out stack : List Int) : Prop :=
  (out = [] ∧ stack = [x.id] ∧ g = (belowL m x.id).length + 1) ∨ (out ++ spread m stack.reverse = belowL m x.id ∧ g = (spread m stack.reverse).length)
theorem Stk.done {m : AModel} {x : ANode} {g : Nat} {out : List Int} (h : Stk m x g out []) : out = belowL m x.id := by
  rcases h with ⟨_, h, _⟩ | ⟨h, _⟩
  · cases h
  · simpa [spread] using h
end Go.Proofs.Ytmafhaadcjgcbaa
end
section
namespace Go.Proofs.Ytmafhaadcjgcbaa
open Go Go.RowKit

theorem prop_info : (Try.prog.info? 85).map (fun i => (i.zero, i.size, i.bytes)) = some (some (.agg #[.string { data := #[] }, .string { data := #[] }]), 2, 32) := by kernel_rfl
theorem ref_info : (Try.prog.info? 82).map (fun i => (i.zero, i.size, i.bytes)) = some (some (.agg #[.string { data := #[] }, .int .i64 0]), 2, 24) := by kernel_rfl
theorem node_info : (Try.prog.info? 38).map (fun i => (i.zero, i.size, i.bytes)) = some (some (.agg #[.int .i64 0, .string { data := #[] }, .int .i64 0, .string { data := #[] }, .slice none 0 0, .slice none 0 0, .slice none 0 0]), 7, 120) := by kernel_rfl
/-- lists no longer than what can be read -/
def LensOK (x : ANode) : Prop := x.props.length * 32 ≤ 140737488351232 ∧ x.kids.length * 8 ≤ 140737488351232 ∧ x.refs.length * 24 ≤ 140737488351232
end Go.Proofs.Ytmafhaadcjgcbaa
end
