import Derived.Test.YtmafhaadcjgcbaaATree
import Derived.Test.YtmafhaadcjgcbaaAAlone
set_option linter.unusedSimpArgs false
set_option linter.unusedVariables false
namespace Go.Proofs.Ytmafhaadcjgcbaa
open Go Go.RowKit

theorem Dep.next {m : AModel} (hi : ∀ i, IdAt m i) {e : Nat} {y : ANode} (hy : y ∈ m.nodes) (h : Dep m e y.id) : (y.parent = 0 ∧ e = 1) ∨ (∃ z ∈ m.nodes, z.id = y.parent ∧ 2 ≤ e ∧ Dep m (e - 1) y.parent) := by
  generalize hid : y.id = id at h
  cases h with
  | root x hx h0 =>
    have := node_inj hi hy hx hid
    subst this; exact .inl ⟨h0, rfl⟩
  | kid d x hx hp hd =>
    have := node_inj hi hy hx hid
    subst this
    obtain ⟨z, hz, e⟩ := hd.node
    exact .inr ⟨z, hz, e, by have := hd.pos; omega, hd⟩

end Go.Proofs.Ytmafhaadcjgcbaa
