import Derived.Test.YtmafhaadcjgcbaaMut3
import Derived.Test.YtmafhaadcjgcbaaGoal
import Derived.Test.YtmafhaadcjgcbaaATellsA
import Derived.Test.YtmafhaadcjgcbaaCopyK
set_option linter.unusedSimpArgs false
set_option linter.unusedVariables false
namespace Go.Proofs.Ytmafhaadcjgcbaa
open Go Go.RowKit

/-! ### A node more, in plain Lean -/
def newN (m : AModel) (concept : ByteArray) (parent : Int) (role : ByteArray) : ANode := ⟨m.next, concept, parent, role, [], [], []⟩
def addRoot (m : AModel) (concept : ByteArray) : AModel := ⟨m.next + 1, m.nodes ++ [newN m concept 0 ⟨#[]⟩]⟩
def addKid (m : AModel) (j : Nat) (y : ANode) (i : Nat) (concept role : ByteArray) : AModel := ⟨m.next + 1, m.nodes.set j { y with kids := insAt y.kids i m.next } ++ [newN m concept y.id role]⟩
section
variable {m : AModel} {n0 : ANode}
theorem more_srt (h : CheckM m) (hn : m.next ≤ 1048576) (h0 : n0.id = m.next) : SrtB (m.nodes ++ [n0]) := by
  have hs := h.1.srtB
  have hlt : ∀ i (hi : i < m.nodes.length), m.nodes[i].id < m.next := fun i hi => (h.1.2 i hi).2.1
  have h1 := h.1.1
  unfold HeadOK at h1
  refine ⟨fun i j hi hj hij => ?_, fun i hi => ?_⟩
  · have hi' : i < m.nodes.length := by simp at hj; omega
    rw [List.getElem_append_left hi']
    by_cases hj' : j < m.nodes.length
    · rw [List.getElem_append_left hj']; exact hs.1 i j hi' hj' hij
    · rw [List.getElem_append_right (by omega)]
      have := hlt i hi'
      simp only [List.getElem_singleton]; omega
  · by_cases hi' : i < m.nodes.length
    · rw [List.getElem_append_left hi']; exact hs.2 i hi'
    · rw [List.getElem_append_right (by omega)]
      simp only [List.getElem_singleton]; omega
theorem more_closed (h : CheckM m) (hk : n0.kids = []) : Closed (m.nodes ++ [n0]) := by
  intro x hx k hkk
  rcases List.mem_append.1 hx with hx | hx
  · obtain ⟨y, hy, e, _⟩ := h.tree.kid hx hkk
    rw [List.map_append]
    exact List.mem_append_left _ (List.mem_map.2 ⟨y, hy, e⟩)
  · simp only [List.mem_cons, List.not_mem_nil, or_false] at hx
    subst hx
    rw [hk] at hkk; simp at hkk
theorem more_kids (hr : ∀ x ∈ m.nodes, ∀ k ∈ x.kids, InR k) (hk : n0.kids = []) : ∀ x ∈ m.nodes ++ [n0], ∀ k ∈ x.kids, InR k := by
  intro x hx k hkk
  rcases List.mem_append.1 hx with hx | hx
  · exact hr x hx k hkk
  · simp only [List.mem_cons, List.not_mem_nil, or_false] at hx
    subst hx
    rw [hk] at hkk; simp at hkk
/-- the kids in a role are those that they were -/
theorem more_inL (h : CheckM m) (hn : m.next ≤ 1048576) (h0 : n0.id = m.next) {y : ANode} (hy : y ∈ m.nodes) (nx : Int) (role : ByteArray) : inL ⟨nx, m.nodes ++ [n0]⟩ y role = inL m y role := by
  unfold inL
  apply List.filter_congr
  intro k hk
  obtain ⟨z, hz, e, _⟩ := h.tree.kid hy hk
  subst e
  unfold roleB
  rw [h.tree.nodeOf hz, nodeOf_srt (m := ⟨nx, m.nodes ++ [n0]⟩) (more_srt h hn h0) (List.mem_append_left _ hz)]
theorem set_last {α : Type} (l : List α) (x y : α) : (l ++ [x]).set l.length y = l ++ [y] := by
  rw [List.set_append_right _ _ (Nat.le_refl _)]; simp
theorem set_old {α : Type} (l : List α) (x y : α) {j : Nat} (hj : j < l.length) : (l ++ [x]).set j y = l.set j y ++ [x] := by
  rw [List.set_append_left _ _ hj]
end
open Classical in
/-- what bars a node more -/
noncomputable def addE (m : AModel) (parent : Int) (role : ByteArray) (a : Int) (concept : ByteArray) : Int :=
  if ¬ CheckM m then 29
  else if wordA concept = false ∨ (parent ≠ 0 ∧ wordA role = false) then 2
  else if parent ≠ 0 ∧ atI m.nodes parent < 0 then 20
  else if (if parent = 0 then rootE role a else kidE (spotI (nodeOf m parent).kids (inL m (nodeOf m parent) role) a) (depR m parent) 1) ≠ 0 then (if parent = 0 then rootE role a else kidE (spotI (nodeOf m parent).kids (inL m (nodeOf m parent) role) a) (depR m parent) 1)
  else if m.nodes.length = 4096 ∨ 1048576 < m.next then 4 else 0
/-- a model, a number and an error as they are answered -/
def AddAs (w' : World) (base : Nat) (m : AModel) (parent : Int) (role : ByteArray) (a : Int) (concept : ByteArray) (v : Value) : Prop :=
  (∃ E : Int, E ≠ 0 ∧ addE m parent role a concept = E ∧ v = .tuple #[.agg #[.int .i64 0, .slice none 0 0], .int .i64 0, .int .i64 E]) ∨
  (addE m parent role a concept = 0 ∧ ∃ vl l, v = .tuple #[.agg #[.int .i64 (m.next + 1), vl], .int .i64 m.next, .int .i64 0] ∧ OwnM w' base vl l ∧
    ((parent = 0 ∧ l.map LN.n = (addRoot m concept).nodes) ∨ (parent ≠ 0 ∧ ∃ j, ∃ hj : j < m.nodes.length, m.nodes[j].id = parent ∧ ∃ i : Nat, spotI m.nodes[j].kids (inL m m.nodes[j] role) a = some (i : Int) ∧ l.map LN.n = (addKid m j m.nodes[j] i concept role).nodes)))
section
variable {m : AModel} {parent a : Int} {role concept : ByteArray}
open Classical in
theorem addE_check (h : ¬ CheckM m) : addE m parent role a concept = 29 := if_pos h
open Classical in
theorem addE_word (h : CheckM m) (hw : wordA concept = false ∨ (parent ≠ 0 ∧ wordA role = false)) : addE m parent role a concept = 2 := by
  unfold addE; rw [if_neg (fun e => e h), if_pos hw]
open Classical in
theorem addE_node (h : CheckM m) (hc : wordA concept = true) (hp : parent ≠ 0) (hw : wordA role = true) (ha : atI m.nodes parent < 0) : addE m parent role a concept = 20 := by
  unfold addE; rw [if_neg (fun e => e h), if_neg (by rintro (e | ⟨_, e⟩) <;> simp_all), if_pos ⟨hp, ha⟩]
open Classical in
theorem addE_root (h : CheckM m) (hc : wordA concept = true) : addE m 0 role a concept = if rootE role a ≠ 0 then rootE role a else if m.nodes.length = 4096 ∨ 1048576 < m.next then 4 else 0 := by
  unfold addE; rw [if_neg (fun e => e h), if_neg (by rintro (e | ⟨e, _⟩) <;> simp_all), if_neg (fun e => e.1 rfl)]; simp
open Classical in
theorem addE_kid (h : CheckM m) (hc : wordA concept = true) {y : ANode} (hy : y ∈ m.nodes) (hw : wordA role = true) {d : Nat} (hd : Dep m d y.id) : addE m y.id role a concept = if kidE (spotI y.kids (inL m y role) a) d 1 ≠ 0 then kidE (spotI y.kids (inL m y role) a) d 1 else if m.nodes.length = 4096 ∨ 1048576 < m.next then 4 else 0 := by
  have hp : y.id ≠ 0 := by have := id_pos h.1.2 hy; omega
  have ha : ¬ atI m.nodes y.id < 0 := by
    obtain ⟨j, hj, rfl⟩ := List.getElem_of_mem hy
    rw [atI_some h.1.srt hj rfl]; omega
  unfold addE
  rw [if_neg (fun e => e h), if_neg (by rintro (e | ⟨_, e⟩) <;> simp_all), if_neg (fun e => ha e.2), if_neg hp, h.tree.nodeOf hy, depR_yes h hd]
end
end Go.Proofs.Ytmafhaadcjgcbaa
