import Derived.Test.YtmafhaadcjgcbaaADown
import Derived.Test.YtmafhaadcjgcbaaAUnder2
import Derived.Test.YtmafhaadcjgcbaaRegX
import Derived.Test.YtmafhaadcjgcbaaACheck
set_option linter.unusedSimpArgs false
set_option linter.unusedVariables false
namespace Go.Proofs.Ytmafhaadcjgcbaa
open Go Go.RowKit

open Classical in
theorem checkI_yes {m : AModel} (h : CheckM m) : checkI m = 0 := by unfold checkI; rw [decide_eq_true h]; rfl
theorem int_is {f : FuncId} {args : Array Value} {w : World} {p b : Int} {R : World → Prop} (h : p = b) (hc : Calls Try.prog f args w fun e w' => e = .returned (.int .i64 p) ∧ R w') : Calls Try.prog f args w fun e w' => e = .returned (.int .i64 b) ∧ R w' := by
  rw [h] at hc; exact hc
theorem rightM_is {m : AModel} : (CheckM m → rightM m = true) ∧ (¬ CheckM m → rightM m = false) := ⟨fun h => rightM_yes (check_iff.1 h), fun h => rightM_no (fun e => h (check_iff.2 e))⟩
theorem CheckM.kids4 {m : AModel} (h : CheckM m) : ∀ x ∈ m.nodes, x.kids.length ≤ 4096 := fun x hx => by
  have := (h.2.1 x hx).2.2.2.1; have := h.1.1.2.2; omega

end Go.Proofs.Ytmafhaadcjgcbaa
