import Derived.Test.YtpjkifbicfcajaaAOrder
set_option linter.unusedSimpArgs false
set_option linter.unusedVariables false
namespace Go.Proofs.Ytpjkifbicfcajaa
open Go Go.RowKit

def HasN (m : AModel) (id : Int) : Prop := CheckM m ∧ ∃ x ∈ m.nodes, x.id = id
open Classical in
noncomputable def belR (m : AModel) (id : Int) : List Int := if HasN m id then belowL m id else []
open Classical in
noncomputable def kidR (m : AModel) (role : ByteArray) (id : Int) : List Int := if HasN m id then inL m (nodeOf m id) role else []
open Classical in
noncomputable def depR (m : AModel) (id : Int) : Int := if h : CheckM m ∧ ∃ d, Dep m d id then (Classical.choose h.2 : Nat) else 0
open Classical in
theorem belR_no {m : AModel} {id : Int} (h : ¬ HasN m id) : belR m id = [] := if_neg h
open Classical in
theorem belR_yes {m : AModel} {x : ANode} (h : CheckM m) (hx : x ∈ m.nodes) : belR m x.id = belowL m x.id := if_pos ⟨h, x, hx, rfl⟩
open Classical in
theorem kidR_no {m : AModel} {id : Int} {role : ByteArray} (h : ¬ HasN m id) : kidR m role id = [] := if_neg h
open Classical in
theorem kidR_yes {m : AModel} {x : ANode} {role : ByteArray} (h : CheckM m) (hx : x ∈ m.nodes) : kidR m role x.id = inL m x role := by
  unfold kidR; rw [if_pos ⟨h, x, hx, rfl⟩, h.tree.nodeOf hx]
open Classical in
theorem depR_no {m : AModel} {id : Int} (h : ¬ HasN m id) : depR m id = 0 := dif_neg (fun ⟨h1, _, h2⟩ => h ⟨h1, h2.node⟩)
open Classical in
theorem depR_yes {m : AModel} {d : Nat} {id : Int} (h : CheckM m) (hd : Dep m d id) : depR m id = d := by
  have hh : CheckM m ∧ ∃ d, Dep m d id := ⟨h, d, hd⟩
  unfold depR; rw [dif_pos hh, (Classical.choose_spec hh.2).uniq h.1.2 hd]
theorem none_has {m : AModel} {id : Int} (h : ∀ i (h : i < m.nodes.length), m.nodes[i].id ≠ id) : ¬ HasN m id := fun ⟨_, x, hx, e⟩ => by
  obtain ⟨j, hj, rfl⟩ := List.getElem_of_mem hx
  exact h j hj e

end Go.Proofs.Ytpjkifbicfcajaa
