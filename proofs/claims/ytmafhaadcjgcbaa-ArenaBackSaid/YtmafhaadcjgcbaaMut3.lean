import Derived.Test.YtmafhaadcjgcbaaMutK
import Derived.Test.YtmafhaadcjgcbaaAIn
set_option linter.unusedSimpArgs false
set_option linter.unusedVariables false
namespace Go.Proofs.Ytmafhaadcjgcbaa
open Go Go.RowKit

/-- sorted, by the numbers alone -/
theorem srtB_congr {l l' : List ANode} (h : SrtB l) (e : l'.map (·.id) = l.map (·.id)) : SrtB l' := by
  have hl : l'.length = l.length := by have := congrArg List.length e; simpa using this
  have hi : ∀ i (h1 : i < l'.length) (h2 : i < l.length), l'[i].id = l[i].id := fun i h1 h2 => by
    have := congrArg (fun x => x[i]?) e
    simpa [h1, h2] using this
  exact ⟨fun i j h1 h2 hij => by rw [hi i h1 (by omega), hi j h2 (by omega)]; exact h.1 i j (by omega) (by omega) hij, fun i h1 => by rw [hi i h1 (by omega)]; exact h.2 i (by omega)⟩
theorem nodeOf_srt {m : AModel} (h : SrtB m.nodes) {y : ANode} (hy : y ∈ m.nodes) : nodeOf m y.id = y := by
  unfold nodeOf
  cases hf : m.nodes.find? (fun n => n.id == y.id) with
  | none => have := List.find?_eq_none.1 hf y hy; simp at this
  | some z =>
    have h1 := List.find?_some hf
    have h2 := List.mem_of_find?_eq_some hf
    obtain ⟨i, hi, rfl⟩ := List.getElem_of_mem h2
    obtain ⟨j, hj, rfl⟩ := List.getElem_of_mem hy
    have := h.1.inj hi hj (by simpa using h1)
    subst this; rfl
/-- each kid's number is some node's -/
def Closed (l : List ANode) : Prop := ∀ x ∈ l, ∀ k ∈ x.kids, k ∈ l.map (·.id)
theorem fam_of {m : AModel} (h : SrtB m.nodes) (hc : Closed m.nodes) : Fam m := ⟨fun _ hy => nodeOf_srt h hy, fun x hx k hk => by
  obtain ⟨y, hy, e⟩ := List.mem_map.1 (hc x hx k hk)
  exact ⟨y, hy, e⟩⟩
theorem closed_set {l : List ANode} (h : Closed l) {j : Nat} (hj : j < l.length) {x : ANode} (hi : x.id = l[j].id) (hk : ∀ k ∈ x.kids, k ∈ l.map (·.id)) : Closed (l.set j x) ∧ (l.set j x).map (·.id) = l.map (·.id) := by
  have e : (l.set j x).map (·.id) = l.map (·.id) := by
    rw [List.map_set, hi]
    apply List.ext_getElem (by simp)
    intro q h1 h2
    by_cases hq : q = j
    · subst hq; simp
    · rw [List.getElem_set_ne (by omega)]
  refine ⟨fun y hy k hkk => ?_, e⟩
  rw [e]
  rcases List.mem_or_eq_of_mem_set hy with hy | rfl
  · exact h y hy k hkk
  · exact hk k hkk
end Go.Proofs.Ytmafhaadcjgcbaa
