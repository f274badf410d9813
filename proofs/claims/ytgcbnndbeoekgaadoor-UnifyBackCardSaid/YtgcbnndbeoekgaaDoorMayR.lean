/- may a bound be? as the document tells it -/
import Derived.Test.YtgcbnndbeoekgaaDoorFindB
import Derived.IntWalk
set_option linter.unusedSimpArgs false
set_option linter.unusedVariables false
namespace Go.Proofs.YtgcbnndbeoekgaaDoor
open Go Go.RowKit

open Classical in
noncomputable def mayB (b : List ABind) : Bool := decide (MayP b)
open Classical in
theorem mayB_yes {b : List ABind} (h : MayP b) : mayB b = true := decide_eq_true h
open Classical in
theorem mayB_no {b : List ABind} (h : ¬ MayP b) : mayB b = false := decide_eq_false h
open Classical in
theorem mayB_iff {b : List ABind} : mayB b = true ↔ MayP b := decide_eq_true_iff
/-- what of a bound's bindings is known -/
def BindTo (l : List ABind) (i : Nat) : Prop := ∀ j, j < i → BindAt l j ∧ ∀ h : j < l.length, RootAt l[j]
theorem BindTo.next {l : List ABind} {i : Nat} (h : BindTo l i) (h1 : BindAt l i) (h2 : ∀ hi : i < l.length, RootAt l[i]) : BindTo l (i + 1) := fun j hj => by
  by_cases e : j = i
  · subst e; exact ⟨h1, h2⟩
  · exact h j (by omega)
theorem BindTo.may {l : List ABind} {i : Nat} (h : BindTo l i) (hi : ¬ i < l.length) (hf : ∀ x ∈ l, FreeAt l x) : MayP l := by
  refine ⟨fun j hj => (h j (by omega)).1 hj, fun x hx => ⟨?_, hf x hx⟩⟩
  obtain ⟨j, hj, rfl⟩ := List.getElem_of_mem hx
  exact (h j (by omega)).2 hj
theorem RootAt.of {x : ABind} {t : TN} (h : x.term.head? = some t) (h1 : t.var ≤ x.hole) : RootAt x := fun t' e => by rw [h] at e; injection e with e; rw [← e]; exact h1

end Go.Proofs.YtgcbnndbeoekgaaDoor
