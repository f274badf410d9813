import Derived.Test.YtmafhaadcjgcbaaMoveQ
import Derived.Test.YtmafhaadcjgcbaaAddP
set_option linter.unusedSimpArgs false
set_option linter.unusedVariables false
/- a node is copied with all below it: what comes, plain -/
namespace Go.Proofs.Ytmafhaadcjgcbaa
open Go Go.RowKit

/-! ### the nodes below, closed -/
section
variable {m : AModel}
theorem Tree.below_kids (h : Tree m) : ∀ x ∈ m.nodes, ∀ y ∈ m.nodes, y.id ∈ belowL m x.id → ∀ k ∈ y.kids, k ∈ belowL m x.id := by
  refine h.induct fun x hx ih y hy hb k hk => ?_
  rw [h.below_eq hx] at hb ⊢
  obtain ⟨c, hc, hb⟩ := List.mem_flatMap.1 hb
  obtain ⟨z, hz, rfl, _, _⟩ := h.kid hx hc
  refine List.mem_flatMap.2 ⟨z.id, hc, List.mem_cons_of_mem _ ?_⟩
  rcases List.mem_cons.1 hb with hb | hb
  · have e : y = z := by rw [← h.nodeOf hy, ← h.nodeOf hz, hb]
    subst e
    rw [h.below_eq hy]
    exact List.mem_flatMap.2 ⟨k, hk, List.mem_cons_self ..⟩
  · exact ih z hz hc y hy hb k hk
theorem Tree.below_parent (h : Tree m) : ∀ x ∈ m.nodes, ∀ y ∈ m.nodes, y.id ∈ belowL m x.id → y.parent = x.id ∨ y.parent ∈ belowL m x.id := by
  refine h.induct fun x hx ih y hy hb => ?_
  rw [h.below_eq hx] at hb
  obtain ⟨c, hc, hb⟩ := List.mem_flatMap.1 hb
  obtain ⟨z, hz, rfl, ep, _⟩ := h.kid hx hc
  rcases List.mem_cons.1 hb with hb | hb
  · have e : y = z := by rw [← h.nodeOf hy, ← h.nodeOf hz, hb]
    subst e
    exact .inl ep
  · refine .inr ?_
    rw [h.below_eq hx]
    refine List.mem_flatMap.2 ⟨z.id, hc, ?_⟩
    rcases ih z hz hc y hy hb with e | e
    · rw [e]; exact List.mem_cons_self ..
    · exact List.mem_cons_of_mem _ e
theorem Dep.parent {d : Nat} {x : ANode} (h : Tree m) (hx : x ∈ m.nodes) (hd : Dep m d x.id) (hp : x.parent ≠ 0) : ∃ e, d = e + 1 ∧ Dep m e x.parent := by
  generalize hi : x.id = i at hd
  cases hd with
  | root y hy h0 =>
    have e : x = y := by rw [← h.nodeOf hx, ← h.nodeOf hy, hi]
    subst e; exact absurd h0 hp
  | kid e y hy h1 h2 =>
    have e' : x = y := by rw [← h.nodeOf hx, ← h.nodeOf hy, hi]
    subst e'; exact ⟨e, rfl, h2⟩
def ksL (m : AModel) (id : Int) : List Int := id :: belowL m id
theorem Tree.parent_out (h : Tree m) {x : ANode} (hx : x ∈ m.nodes) : x.parent ∉ ksL m x.id := by
  intro hk
  obtain ⟨d, _, hd⟩ := h.dep x hx
  by_cases h0 : x.parent = 0
  · rw [h0] at hk
    rcases List.mem_cons.1 hk with e | e
    · have := id_pos h.ids hx; omega
    · obtain ⟨y, hy, e⟩ := h.below_node x hx 0 e
      have := id_pos h.ids hy; omega
  · obtain ⟨e, rfl, he⟩ := Dep.parent h hx hd h0
    rcases List.mem_cons.1 hk with e1 | e1
    · rw [e1] at he
      have := he.uniq h.ids hd; omega
    · obtain ⟨j, h1, _⟩ := h.below_up x hx _ hd _ e1
      have := h1.uniq h.ids he; omega
theorem ks_nodup (h : Tree m) {x : ANode} (hx : x ∈ m.nodes) : (ksL m x.id).Nodup := List.nodup_cons.2 ⟨h.not_below hx, h.below_nodup x hx⟩
theorem ks_node (h : Tree m) {x : ANode} (hx : x ∈ m.nodes) {k : Int} (hk : k ∈ ksL m x.id) : ∃ y ∈ m.nodes, y.id = k := by
  rcases List.mem_cons.1 hk with rfl | hk
  · exact ⟨x, hx, rfl⟩
  · exact h.below_node x hx k hk
theorem ks_kids (h : Tree m) {x : ANode} (hx : x ∈ m.nodes) {y : ANode} (hy : y ∈ m.nodes) (hk : y.id ∈ ksL m x.id) {k : Int} (hc : k ∈ y.kids) : k ∈ belowL m x.id := by
  rcases List.mem_cons.1 hk with e | hk
  · have e' : y = x := by rw [← h.nodeOf hy, ← h.nodeOf hx, e]
    subst e'
    rw [h.below_eq hy]
    exact List.mem_flatMap.2 ⟨k, hc, List.mem_cons_self ..⟩
  · exact h.below_kids x hx y hy hk k hc
theorem ks_parent (h : Tree m) {x : ANode} (hx : x ∈ m.nodes) {y : ANode} (hy : y ∈ m.nodes) (hk : y.id ∈ belowL m x.id) : y.parent ∈ ksL m x.id := by
  rcases h.below_parent x hx y hy hk with e | e
  · rw [e]; exact List.mem_cons_self ..
  · exact List.mem_cons_of_mem _ e

/-! ### the copies -/
def refTo (nx : Int) (ks : List Int) (r : ARef) : ARef := if r.target ∈ ks then { r with target := nx + idxI ks r.target } else r
def copyN (m : AModel) (ks : List Int) (i : Nat) (y : ANode) : ANode := ⟨m.next + i, y.concept, if i = 0 then 0 else m.next + idxI ks y.parent, y.role, y.props, y.kids.map (fun k => m.next + idxI ks k), y.refs.map (refTo m.next ks)⟩
def copiesTo (m : AModel) (ks : List Int) : Nat → List ANode
  | 0 => []
  | j + 1 => copiesTo m ks j ++ [copyN m ks j (nodeOf m (ks.getD j 0))]
theorem copies_len (m : AModel) (ks : List Int) : ∀ j, (copiesTo m ks j).length = j
  | 0 => rfl
  | j + 1 => by rw [copiesTo, List.length_append, copies_len m ks j]; rfl
theorem copies_at (m : AModel) (ks : List Int) : ∀ j i (h : i < j), (copiesTo m ks j)[i]'(by rw [copies_len]; exact h) = copyN m ks i (nodeOf m (ks.getD i 0))
  | 0, _, h => absurd h (Nat.not_lt_zero _)
  | j + 1, i, h => by
    simp only [copiesTo]
    by_cases hi : i < j
    · rw [List.getElem_append_left (by rw [copies_len]; exact hi)]; exact copies_at m ks j i hi
    · have e : i = j := by omega
      subst e
      rw [List.getElem_append_right (by rw [copies_len]; omega)]
      simp [copies_len]
theorem copies_mem {ks : List Int} {j : Nat} {z : ANode} (h : z ∈ copiesTo m ks j) : ∃ i, i < j ∧ z = copyN m ks i (nodeOf m (ks.getD i 0)) := by
  obtain ⟨i, hi, rfl⟩ := List.getElem_of_mem h
  rw [copies_len] at hi
  exact ⟨i, hi, copies_at m ks j i hi⟩
theorem ks_at {ks : List Int} {i : Nat} (h : i < ks.length) : ks.getD i 0 ∈ ks := by
  rw [List.getD_eq_getElem?_getD, List.getElem?_eq_getElem h]; exact List.getElem_mem h
theorem idx_lt {ks : List Int} {k : Int} (h : k ∈ ks) : 0 ≤ idxI ks k ∧ idxI ks k < ks.length := by
  rcases idxI_cases ks k with ⟨i, hi, _, e, _⟩ | ⟨h2, _⟩
  · omega
  · exact absurd h h2
section
variable (h : CheckM m) {x : ANode} (hx : x ∈ m.nodes) (hf : m.next + (ksL m x.id).length ≤ 1048577)
include h hx hf
omit hx in
theorem copies_srt {j : Nat} (hj : j ≤ (ksL m x.id).length) : SrtB (m.nodes ++ copiesTo m (ksL m x.id) j) := by
  have hs := h.1.srtB
  have hlt : ∀ i (hi : i < m.nodes.length), m.nodes[i].id < m.next := fun i hi => (h.1.2 i hi).2.1
  have h1 := h.1.1
  unfold HeadOK at h1
  have hid : ∀ i (hi : i < (m.nodes ++ copiesTo m (ksL m x.id) j).length) (hn : ¬ i < m.nodes.length), ((m.nodes ++ copiesTo m (ksL m x.id) j)[i]).id = m.next + ((i - m.nodes.length : Nat) : Int) ∧ i - m.nodes.length < j := fun i hi hn => by
    have hi2 : i - m.nodes.length < j := by rw [List.length_append, copies_len] at hi; omega
    rw [List.getElem_append_right (by omega), copies_at _ _ _ _ hi2]
    exact ⟨rfl, hi2⟩
  refine ⟨fun i k hi hk hik => ?_, fun i hi => ?_⟩
  · by_cases hi' : i < m.nodes.length
    · rw [List.getElem_append_left hi']
      by_cases hk' : k < m.nodes.length
      · rw [List.getElem_append_left hk']; exact hs.1 i k hi' hk' hik
      · rw [(hid k hk hk').1]; have := hlt i hi'; omega
    · rw [(hid i hi hi').1, (hid k hk (by omega)).1]; omega
  · by_cases hi' : i < m.nodes.length
    · rw [List.getElem_append_left hi']; exact hs.2 i hi'
    · have := hid i hi hi'
      rw [this.1]; omega
omit hf in
theorem copies_kid {j : Nat} (hj : j ≤ (ksL m x.id).length) {z : ANode} (hz : z ∈ copiesTo m (ksL m x.id) j) {k : Int} (hk : k ∈ z.kids) : ∃ c ∈ belowL m x.id, k = m.next + idxI (ksL m x.id) c ∧ 0 < idxI (ksL m x.id) c ∧ idxI (ksL m x.id) c < (ksL m x.id).length := by
  obtain ⟨i, hi, rfl⟩ := copies_mem hz
  have hm := ks_at (ks := ksL m x.id) (i := i) (by omega)
  obtain ⟨y, hy, e⟩ := ks_node h.tree hx hm
  rw [← e, h.tree.nodeOf hy] at hk
  obtain ⟨c, hc, rfl⟩ := List.mem_map.1 hk
  have hcb := ks_kids h.tree hx hy (by rw [e]; exact hm) hc
  have hl := idx_lt (ks := ksL m x.id) (List.mem_cons_of_mem _ hcb)
  refine ⟨c, hcb, rfl, ?_, hl.2⟩
  rcases idxI_cases (ksL m x.id) c with ⟨q, hq, e1, e2, _⟩ | ⟨h2, _⟩
  · by_cases h0 : q = 0
    · subst h0
      have e3 : x.id = c := e1
      rw [← e3] at hcb
      exact absurd hcb (h.tree.not_below hx)
    · omega
  · exact absurd (List.mem_cons_of_mem _ hcb) h2
omit hf in
theorem copies_closed : Closed (m.nodes ++ copiesTo m (ksL m x.id) (ksL m x.id).length) := by
  intro z hz k hk
  rw [List.map_append]
  rcases List.mem_append.1 hz with hz | hz
  · obtain ⟨y, hy, e, _⟩ := h.tree.kid hz hk
    exact List.mem_append_left _ (List.mem_map.2 ⟨y, hy, e⟩)
  · obtain ⟨c, hc, rfl, h1, h2⟩ := copies_kid h hx (Nat.le_refl _) hz hk
    refine List.mem_append_right _ (List.mem_map.2 ⟨_, List.getElem_mem (n := (idxI (ksL m x.id) c).toNat) (by rw [copies_len]; omega), ?_⟩)
    rw [copies_at _ _ _ _ (by omega)]
    show m.next + _ = _
    omega
theorem copies_kidsR (hr : ∀ y ∈ m.nodes, ∀ k ∈ y.kids, InR k) {j : Nat} (hj : j ≤ (ksL m x.id).length) : ∀ z ∈ m.nodes ++ copiesTo m (ksL m x.id) j, ∀ k ∈ z.kids, InR k := by
  intro z hz k hk
  rcases List.mem_append.1 hz with hz | hz
  · exact hr z hz k hk
  · obtain ⟨c, _, rfl, h1, h2⟩ := copies_kid h hx hj hz hk
    have h3 := h.1.1
    unfold HeadOK at h3
    unfold InR
    omega
omit h hx hf in
theorem copies_first : ∃ z ∈ m.nodes ++ copiesTo m (ksL m x.id) (ksL m x.id).length, z.id = m.next := by
  refine ⟨_, List.mem_append_right _ (List.getElem_mem (n := 0) (by rw [copies_len]; simp [ksL])), ?_⟩
  rw [copies_at _ _ _ _ (by simp [ksL])]
  show m.next + ((0 : Nat) : Int) = m.next
  omega
omit hf in
theorem copies_nokid : ∀ z ∈ m.nodes ++ copiesTo m (ksL m x.id) (ksL m x.id).length, m.next ∉ z.kids := by
  intro z hz hk
  rcases List.mem_append.1 hz with hz | hz
  · obtain ⟨y, hy, e, _⟩ := h.tree.kid hz hk
    obtain ⟨i, hi, rfl⟩ := List.getElem_of_mem hy
    have := (h.1.2 i hi).2.1
    omega
  · obtain ⟨c, _, e, h1, _⟩ := copies_kid h hx (Nat.le_refl _) hz hk
    omega
omit hx in
/-- the kids in a role are those that they were -/
theorem copies_inL {j : Nat} (hj : j ≤ (ksL m x.id).length) {y : ANode} (hy : y ∈ m.nodes) (nx : Int) (role : ByteArray) : inL ⟨nx, m.nodes ++ copiesTo m (ksL m x.id) j⟩ y role = inL m y role := by
  unfold inL
  apply List.filter_congr
  intro k hk
  obtain ⟨z, hz, e, _⟩ := h.tree.kid hy hk
  subst e
  unfold roleB
  rw [h.tree.nodeOf hz, nodeOf_srt (m := ⟨nx, m.nodes ++ copiesTo m (ksL m x.id) j⟩) (copies_srt (x := x) h hf hj) (List.mem_append_left _ hz)]
omit hx in
theorem copies_place {p a d high : Int} {role : ByteArray} (hp : p = 0 ∨ ∃ y ∈ m.nodes, y.id = p) (hg : goalE m p role a d high = 0) (nx : Int) : PlaceAt nx (m.nodes ++ copiesTo m (ksL m x.id) (ksL m x.id).length) m.next p role a (iOf m p role a) := by
  have hne : p = 0 ∨ p ≠ m.next := by
    rcases hp with h0 | ⟨y, hy, rfl⟩
    · exact .inl h0
    · obtain ⟨i, hi, rfl⟩ := List.getElem_of_mem hy
      have := (h.1.2 i hi).2.1
      exact .inr (by omega)
  rcases hne with h0 | hne
  · exact .inl h0
  · rcases place_of h.tree.fam (check_kids4 h) hne hp hg with h0 | ⟨y, hy, e, h1, h2, h3⟩
    · exact .inl h0
    · refine .inr ⟨y, List.mem_append_left _ hy, e, h1, h2, ?_⟩
      rw [copies_inL (x := x) h hf (Nat.le_refl _) hy]
      exact h3
end
end

/-! ### what Copy makes -/
open Classical in
noncomputable def copyE (m : AModel) (id p : Int) (role : ByteArray) (a : Int) : Int :=
  if ¬ CheckM m then 29 else if p ≠ 0 ∧ wordA role = false then 2 else if atI m.nodes id < 0 ∨ (p ≠ 0 ∧ atI m.nodes p < 0) then 20
  else if goalE m p role a (dN m p) (heightN m id : Nat) ≠ 0 then goalE m p role a (dN m p) (heightN m id : Nat)
  else if 4096 < m.nodes.length + (ksL m id).length ∨ 1048577 < m.next + (ksL m id).length then 4 else 0
noncomputable def copyL (m : AModel) (id p : Int) (role : ByteArray) (a : Int) : List ANode := placeN (m.nodes ++ copiesTo m (ksL m id) (ksL m id).length) m.next p role (iOf m p role a).toNat
section
variable {m : AModel} {id p a : Int} {role : ByteArray}
open Classical in
theorem copyE_check (h : ¬ CheckM m) : copyE m id p role a = 29 := if_pos h
open Classical in
theorem copyE_word (h : CheckM m) (hp : p ≠ 0) (hw : wordA role = false) : copyE m id p role a = 2 := by unfold copyE; rw [if_neg (fun e => e h), if_pos ⟨hp, hw⟩]
open Classical in
theorem copyE_node (h : CheckM m) (hw : p ≠ 0 → wordA role = true) (hn : atI m.nodes id < 0 ∨ (p ≠ 0 ∧ atI m.nodes p < 0)) : copyE m id p role a = 20 := by
  unfold copyE; rw [if_neg (fun e => e h), if_neg (fun e => by rw [hw e.1] at e; exact absurd e.2 (by simp)), if_pos hn]
section
variable (h : CheckM m) (hw : p ≠ 0 → wordA role = true) (hn : ¬ (atI m.nodes id < 0 ∨ (p ≠ 0 ∧ atI m.nodes p < 0)))
include h hw hn
open Classical in
theorem copyE_goal (hg : goalE m p role a (dN m p) (heightN m id : Nat) ≠ 0) : copyE m id p role a = goalE m p role a (dN m p) (heightN m id : Nat) := by
  unfold copyE; rw [if_neg (fun e => e h), if_neg (fun e => by rw [hw e.1] at e; exact absurd e.2 (by simp)), if_neg hn, if_pos hg]
open Classical in
theorem copyE_full (hg : goalE m p role a (dN m p) (heightN m id : Nat) = 0) (hl : 4096 < m.nodes.length + (ksL m id).length ∨ 1048577 < m.next + (ksL m id).length) : copyE m id p role a = 4 := by
  unfold copyE; rw [if_neg (fun e => e h), if_neg (fun e => by rw [hw e.1] at e; exact absurd e.2 (by simp)), if_neg hn, if_neg (fun e => e hg), if_pos hl]
open Classical in
theorem copyE_ok (hg : goalE m p role a (dN m p) (heightN m id : Nat) = 0) (hl : ¬ (4096 < m.nodes.length + (ksL m id).length ∨ 1048577 < m.next + (ksL m id).length)) : copyE m id p role a = 0 := by
  unfold copyE; rw [if_neg (fun e => e h), if_neg (fun e => by rw [hw e.1] at e; exact absurd e.2 (by simp)), if_neg hn, if_neg (fun e => e hg), if_neg hl]
end
end
/-- the same where the model lies in lists of the call's own -/
def ResCopyO (w' : World) (base : Nat) (next more E : Int) (ns : List ANode) (v : Value) : Prop :=
  (E ≠ 0 ∧ v = .tuple #[.agg #[.int .i64 0, .slice none 0 0], .int .i64 0, .int .i64 E]) ∨
  (E = 0 ∧ ∃ vl l, v = .tuple #[.agg #[.int .i64 (next + more), vl], .int .i64 next, .int .i64 0] ∧ OwnM w' base vl l ∧ l.map LN.n = ns)
end Go.Proofs.Ytmafhaadcjgcbaa
