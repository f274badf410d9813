import Derived.Test.YtpkapommekkbcaaDoorModel
set_option linter.unusedSimpArgs false
set_option linter.unusedVariables false
namespace Go.Proofs.YtpkapommekkbcaaDoor
open Go Go.RowKit

/-! ### where a node stands in the list -/
def Srt (l : List ANode) : Prop := ∀ i j (hi : i < l.length) (hj : j < l.length), i < j → l[i].id < l[j].id
def atI (l : List ANode) (id : Int) : Int := match l.findIdx? (fun n => n.id == id) with | some i => (i : Int) | none => -1
section
variable {l : List ANode} {id : Int}
theorem IdsOK.srt {m : AModel} (h : IdsOK m) : Srt m.nodes := ids_lt h.2
theorem Srt.inj (h : Srt l) {i j : Nat} (hi : i < l.length) (hj : j < l.length) (e : l[i].id = l[j].id) : i = j := by
  rcases Nat.lt_trichotomy i j with h1 | h1 | h1
  · have := h i j hi hj h1; omega
  · exact h1
  · have := h j i hj hi h1; omega
theorem atI_cases (l : List ANode) (id : Int) : (∃ i, ∃ h : i < l.length, l[i].id = id ∧ atI l id = i) ∨ ((∀ i (h : i < l.length), l[i].id ≠ id) ∧ atI l id = -1) := by
  unfold atI
  cases hf : l.findIdx? (fun n => n.id == id) with
  | none =>
    refine .inr ⟨fun i h e => ?_, rfl⟩
    have := List.findIdx?_eq_none_iff.1 hf l[i] (List.getElem_mem _)
    simp [e] at this
  | some i =>
    obtain ⟨h, h1, _⟩ := List.findIdx?_eq_some_iff_getElem.1 hf
    exact .inl ⟨i, h, by simpa using h1, rfl⟩
theorem atI_some (hs : Srt l) {i : Nat} (h : i < l.length) (e : l[i].id = id) : atI l id = i := by
  rcases atI_cases l id with ⟨j, hj, e2, e3⟩ | ⟨h2, _⟩
  · rw [e3, hs.inj hj h (by omega)]
  · exact absurd e (h2 i h)
theorem atI_none (h : ∀ i (h : i < l.length), l[i].id ≠ id) : atI l id = -1 := by
  rcases atI_cases l id with ⟨j, hj, e2, e3⟩ | ⟨_, h2⟩
  · exact absurd e2 (h j hj)
  · exact h2
/-! ### the search by halves: what holds between lo and hi -/
def Halves (l : List ANode) (id : Int) (lo hi : Nat) : Prop := lo ≤ hi ∧ hi ≤ l.length ∧ (∀ j (h : j < l.length), j < lo → l[j].id < id) ∧ ∀ j (h : j < l.length), hi ≤ j → id ≤ l[j].id
theorem Halves.start (l : List ANode) (id : Int) : Halves l id 0 l.length := ⟨Nat.zero_le _, Nat.le_refl _, fun j _ h => by omega, fun j h h2 => by omega⟩
theorem Halves.up {lo hi h : Nat} (hh : Halves l id lo hi) (hs : Srt l) (h1 : lo ≤ h) (h2 : h < hi) (hl : h < l.length) (e : l[h].id < id) : Halves l id (h + 1) hi := by
  obtain ⟨a, b, c, d⟩ := hh
  refine ⟨by omega, b, fun j hj hjl => ?_, d⟩
  rcases Nat.lt_succ_iff_lt_or_eq.1 hjl with h3 | h3
  · have := hs j h hj hl h3; omega
  · subst h3; exact e
theorem Halves.down {lo hi h : Nat} (hh : Halves l id lo hi) (hs : Srt l) (h1 : lo ≤ h) (_h2 : h < hi) (hl : h < l.length) (e : id ≤ l[h].id) : Halves l id lo h := by
  obtain ⟨a, b, c, d⟩ := hh
  refine ⟨h1, by omega, c, fun j hj hjl => ?_⟩
  rcases Nat.lt_or_eq_of_le hjl with h3 | h3
  · have := hs h j hl hj h3; omega
  · subst h3; exact e
theorem Halves.no {lo : Nat} (hh : Halves l id lo lo) (hs : Srt l) (e : ∀ h : lo < l.length, l[lo].id ≠ id) : atI l id = -1 := by
  obtain ⟨a, b, c, d⟩ := hh
  refine atI_none fun i hi e2 => ?_
  rcases Nat.lt_trichotomy i lo with h | h | h
  · have := c i hi h; omega
  · subst h; exact e hi e2
  · have h3 := d lo (by omega) (Nat.le_refl _); have := hs lo i (by omega) hi h; omega
end
/-! ### where a number stands in a list -/
def idxI (l : List Int) (id : Int) : Int := match l.findIdx? (· == id) with | some i => (i : Int) | none => -1
theorem idxI_cases (l : List Int) (id : Int) : (∃ i, ∃ h : i < l.length, l[i] = id ∧ idxI l id = i ∧ ∀ j (hj : j < i), l[j] ≠ id) ∨ (id ∉ l ∧ idxI l id = -1) := by
  unfold idxI
  cases hf : l.findIdx? (· == id) with
  | none =>
    refine .inr ⟨fun e => ?_, rfl⟩
    have := List.findIdx?_eq_none_iff.1 hf id e
    simp at this
  | some i =>
    obtain ⟨h, h1, h2⟩ := List.findIdx?_eq_some_iff_getElem.1 hf
    exact .inl ⟨i, h, by simpa using h1, rfl, fun j hj => by simpa using h2 j hj⟩
theorem idxI_at {l : List Int} {id : Int} {i : Nat} (h : i < l.length) (e : l[i] = id) (hn : ∀ j (hj : j < l.length), j < i → l[j] ≠ id) : idxI l id = i := by
  rcases idxI_cases l id with ⟨k, hk, e1, e2, e3⟩ | ⟨h2, _⟩
  · rcases Nat.lt_trichotomy i k with h3 | h3 | h3
    · exact absurd e (e3 i h3)
    · rw [e2, h3]
    · exact absurd e1 (hn k hk h3)
  · exact absurd (e ▸ List.getElem_mem h) h2
theorem idxI_none {l : List Int} {id : Int} (h : ∀ j (hj : j < l.length), l[j] ≠ id) : idxI l id = -1 := by
  rcases idxI_cases l id with ⟨k, hk, e1, _⟩ | ⟨_, h2⟩
  · exact absurd e1 (h k hk)
  · exact h2
theorem idxI_mem {l : List Int} {id : Int} : 0 ≤ idxI l id ↔ id ∈ l := by
  rcases idxI_cases l id with ⟨k, hk, e1, e2, _⟩ | ⟨h1, h2⟩
  · rw [e2]; exact ⟨fun _ => e1 ▸ List.getElem_mem hk, fun _ => by omega⟩
  · rw [h2]; exact ⟨fun h => by omega, fun h => absurd h h1⟩
end Go.Proofs.YtpkapommekkbcaaDoor
