import Derived.Test.YtmafhaadcjgcbaaAOrder
set_option linter.unusedSimpArgs false
set_option linter.unusedVariables false
namespace Go.Proofs.Ytmafhaadcjgcbaa
open Go Go.RowKit

open Classical in
noncomputable def depR (m : AModel) (id : Int) : Int := if h : CheckM m ∧ ∃ d, Dep m d id then (Classical.choose h.2 : Nat) else 0
open Classical in
theorem depR_yes {m : AModel} {d : Nat} {id : Int} (h : CheckM m) (hd : Dep m d id) : depR m id = d := by
  have hh : CheckM m ∧ ∃ d, Dep m d id := ⟨h, d, hd⟩
  unfold depR; rw [dif_pos hh, (Classical.choose_spec hh.2).uniq h.1.2 hd]
end Go.Proofs.Ytmafhaadcjgcbaa
