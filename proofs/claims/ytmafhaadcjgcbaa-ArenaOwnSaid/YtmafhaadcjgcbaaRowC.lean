/- a row's cells, element by element; a row of nodes with its lists' values -/
import Derived.Test.YtmafhaadcjgcbaaMutK
import Derived.Test.YtmafhaadcjgcbaaHData
set_option linter.unusedSimpArgs false
set_option linter.unusedVariables false
namespace Go.Proofs.Ytmafhaadcjgcbaa
open Go Go.RowKit

section
variable {α : Type} {size : Nat} {E : World → (Nat → Prop) → α → List Value → Prop} {w w' : World} {F F' : Nat → Prop} {A : Option Addr} {l : List α}
theorem flatten_get {css : List (List Value)} (h : ∀ cs ∈ css, cs.length = size) : ∀ j u, css.flatten[j]? = some u → ∃ i, ∃ hi : i < css.length, ∃ k, k < size ∧ j = i * size + k ∧ css[i][k]? = some u := by
  induction css with
  | nil => intro j u h; simp at h
  | cons c r ih =>
    intro j u hu
    rw [List.flatten_cons] at hu
    have hc := h c (by simp)
    by_cases hj : j < size
    · rw [List.getElem?_append_left (by rw [hc]; exact hj)] at hu
      exact ⟨0, by simp, j, hj, by omega, hu⟩
    · rw [List.getElem?_append_right (by rw [hc]; omega), hc] at hu
      obtain ⟨i, hi, k, hk, e, hu⟩ := ih (fun cs hm => h cs (by simp [hm])) _ u hu
      exact ⟨i + 1, by simpa using hi, k, hk, by rw [Nat.add_mul]; omega, hu⟩
theorem RowOf.css (h : RowOf size E w F A l) : ∃ css : List (List Value), css.length = l.length ∧ (∀ cs ∈ css, cs.length = size) ∧ (∀ i (h : i < l.length) (h' : i < css.length), E w F l[i] css[i]) ∧
    ∀ ad, A = some ad → ∀ j u, css.flatten[j]? = some u → w.cell? (ad.add j) = some u := by
  obtain ⟨f, hf⟩ := Go.Deep.choose_lt (n := l.length) (p := fun i (cs : List Value) => cs.length = size ∧ (∀ hi : i < l.length, E w F l[i] cs) ∧ ∀ b off, A = some ⟨b, off, none⟩ → ∀ j, j < size → w.cell? ⟨b, off + i * size + j, none⟩ = cs[j]?) (fun i hi => by
    obtain ⟨cs, h1, h2, h3⟩ := h.2 i hi
    exact ⟨cs, h1, fun _ => h2, h3⟩)
  have hm : ∀ cs ∈ (List.range l.length).map f, cs.length = size := fun cs hcs => by
    obtain ⟨i, hi, rfl⟩ := List.mem_map.1 hcs
    exact (hf i (by simpa using hi)).1
  refine ⟨(List.range l.length).map f, by simp, hm, fun i hi hi' => ?_, fun ad hA j u hu => ?_⟩
  · have := (hf i hi).2.1 hi
    simpa using this
  · obtain ⟨i, hi, k, hk, rfl, hv⟩ := flatten_get hm j u hu
    have hil : i < l.length := by simpa using hi
    obtain ⟨b, off, e, _⟩ := h.1 (by intro hn; subst hn; simp at hil)
    rw [hA] at e; cases e
    rw [add_some, ← Nat.add_assoc, (hf i hil).2.2 b off hA k hk, ← hv]
    simp
end
/-- a node's lists read -/
def LN.Reads (w : World) (F : Nat → Prop) (x : LN) : Prop := IsRow 2 EProp w F x.p x.n.props ∧ IsRow 1 EInt w F x.k x.n.kids ∧ IsRow 2 ERef w F x.r x.n.refs
section
variable {w w' : World} {F F' : Nat → Prop} {A : Option Addr}
theorem LN.Reads.keep {x : LN} (h : x.Reads w F) (hk : Keep F w w') (hF : ∀ b, F b → F' b) : x.Reads w' F' := ⟨h.1.keep EProp.stays hk hF, h.2.1.keep EInt.stays hk hF, h.2.2.keep ERef.stays hk hF⟩
instance : Inhabited LN := ⟨⟨default, .slice none 0 0, .slice none 0 0, .slice none 0 0⟩⟩
end
end Go.Proofs.Ytmafhaadcjgcbaa
