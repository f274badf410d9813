import Derived.Test.YtmafhaadcjgcbaaMutK
import Derived.Test.YtmafhaadcjgcbaaAIn
import Derived.Test.YtmafhaadcjgcbaaPastP
set_option linter.unusedSimpArgs false
set_option linter.unusedVariables false
section
namespace Go.Proofs.Ytmafhaadcjgcbaa
open Go Go.RowKit

/-- sorted, by the numbers alone -/
theorem srtB_congr {l l' : List ANode} (h : SrtB l) (e : l'.map (·.id) = l.map (·.id)) : SrtB l' := by
  have hl : l'.length = l.length := by have := congrArg List.length e; simpa using this
  have hi : ∀ i (h1 : i < l'.length) (h2 : i < l.length), l'[i].id = l[i].id := fun i h1 h2 => by
    have := congrArg (fun x => x[i]?) e
    simpa [h1, h2] using this
  exact ⟨fun i j h1 h2 hij => by rw [hi i h1 (by omega), hi j h2 (by omega)]; exact h.1 i j (by omega) (by omega) hij, fun i h1 => by rw [hi i h1 (by omega)]; exact h.2 i (by omega)⟩
theorem nodeOf_srt {m : AModel} (h : SrtB m.nodes) {y : ANode} (hy : y ∈ m.nodes) : nodeOf m y.id = y := by
  unfold nodeOf
  cases hf : m.nodes.find? (fun n => n.id == y.id) with
  | none => have := List.find?_eq_none.1 hf y hy; simp at this
  | some z =>
    have h1 := List.find?_some hf
    have h2 := List.mem_of_find?_eq_some hf
    obtain ⟨i, hi, rfl⟩ := List.getElem_of_mem h2
    obtain ⟨j, hj, rfl⟩ := List.getElem_of_mem hy
    have := h.1.inj hi hj (by simpa using h1)
    subst this; rfl
/-- each kid's number is some node's -/
def Closed (l : List ANode) : Prop := ∀ x ∈ l, ∀ k ∈ x.kids, k ∈ l.map (·.id)
theorem fam_of {m : AModel} (h : SrtB m.nodes) (hc : Closed m.nodes) : Fam m := ⟨fun _ hy => nodeOf_srt h hy, fun x hx k hk => by
  obtain ⟨y, hy, e⟩ := List.mem_map.1 (hc x hx k hk)
  exact ⟨y, hy, e⟩⟩
theorem closed_set {l : List ANode} (h : Closed l) {j : Nat} (hj : j < l.length) {x : ANode} (hi : x.id = l[j].id) (hk : ∀ k ∈ x.kids, k ∈ l.map (·.id)) : Closed (l.set j x) ∧ (l.set j x).map (·.id) = l.map (·.id) := by
  have e : (l.set j x).map (·.id) = l.map (·.id) := by
    rw [List.map_set, hi]
    apply List.ext_getElem (by simp)
    intro q h1 h2
    by_cases hq : q = j
    · subst hq; simp
    · rw [List.getElem_set_ne (by omega)]
  refine ⟨fun y hy k hkk => ?_, e⟩
  rw [e]
  rcases List.mem_or_eq_of_mem_set hy with hy | rfl
  · exact h y hy k hkk
  · exact hk k hkk
end Go.Proofs.Ytmafhaadcjgcbaa
end
section
/- a row's cells, element by element; a row of nodes with its lists' values -/
namespace Go.Proofs.Ytmafhaadcjgcbaa
open Go Go.RowKit

section
variable {α : Type} {size : Nat} {E : World → (Nat → Prop) → α → List Value → Prop} {w w' : World} {F F' : Nat → Prop} {A : Option Addr} {l : List α}
theorem flatten_get {css : List (List Value)} (h : ∀ cs ∈ css, cs.length = size) : ∀ j u, css.flatten[j]? = some u → ∃ i, ∃ hi : i < css.length, ∃ k, k < size ∧ j = i * size + k ∧ css[i][k]? = some u := by
  induction css with
  | nil => intro j u h; simp at h
  | cons c r ih =>
    intro j u hu
    rw [List.flatten_cons] at hu
    have hc := h c (by simp)
    by_cases hj : j < size
    · rw [List.getElem?_append_left (by rw [hc]; exact hj)] at hu
      exact ⟨0, by simp, j, hj, by omega, hu⟩
    · rw [List.getElem?_append_right (by rw [hc]; omega), hc] at hu
      obtain ⟨i, hi, k, hk, e, hu⟩ := ih (fun cs hm => h cs (by simp [hm])) _ u hu
      exact ⟨i + 1, by simpa using hi, k, hk, by rw [Nat.add_mul]; omega, hu⟩
theorem RowOf.css (h : RowOf size E w F A l) : ∃ css : List (List Value), css.length = l.length ∧ (∀ cs ∈ css, cs.length = size) ∧ (∀ i (h : i < l.length) (h' : i < css.length), E w F l[i] css[i]) ∧
    ∀ ad, A = some ad → ∀ j u, css.flatten[j]? = some u → w.cell? (ad.add j) = some u := by
  obtain ⟨f, hf⟩ := Go.Deep.choose_lt (n := l.length) (p := fun i (cs : List Value) => cs.length = size ∧ (∀ hi : i < l.length, E w F l[i] cs) ∧ ∀ b off, A = some ⟨b, off, none⟩ → ∀ j, j < size → w.cell? ⟨b, off + i * size + j, none⟩ = cs[j]?) (fun i hi => by
    obtain ⟨cs, h1, h2, h3⟩ := h.2 i hi
    exact ⟨cs, h1, fun _ => h2, h3⟩)
  have hm : ∀ cs ∈ (List.range l.length).map f, cs.length = size := fun cs hcs => by
    obtain ⟨i, hi, rfl⟩ := List.mem_map.1 hcs
    exact (hf i (by simpa using hi)).1
  refine ⟨(List.range l.length).map f, by simp, hm, fun i hi hi' => ?_, fun ad hA j u hu => ?_⟩
  · have := (hf i hi).2.1 hi
    simpa using this
  · obtain ⟨i, hi, k, hk, rfl, hv⟩ := flatten_get hm j u hu
    have hil : i < l.length := by simpa using hi
    obtain ⟨b, off, e, _⟩ := h.1 (by intro hn; subst hn; simp at hil)
    rw [hA] at e; cases e
    rw [add_some, ← Nat.add_assoc, (hf i hil).2.2 b off hA k hk, ← hv]
    simp
end
/-- a node's lists read -/
def LN.Reads (w : World) (F : Nat → Prop) (x : LN) : Prop := IsRow 2 EProp w F x.p x.n.props ∧ IsRow 1 EInt w F x.k x.n.kids ∧ IsRow 2 ERef w F x.r x.n.refs
section
variable {w w' : World} {F F' : Nat → Prop} {A : Option Addr}
theorem LN.Reads.keep {x : LN} (h : x.Reads w F) (hk : Keep F w w') (hF : ∀ b, F b → F' b) : x.Reads w' F' := ⟨h.1.keep EProp.stays hk hF, h.2.1.keep EInt.stays hk hF, h.2.2.keep ERef.stays hk hF⟩
instance : Inhabited LN := ⟨⟨default, .slice none 0 0, .slice none 0 0, .slice none 0 0⟩⟩
end
end Go.Proofs.Ytmafhaadcjgcbaa
end
