import Derived.Test.YtmafhaadcjgcbaaMoveQ
import Derived.Test.YtmafhaadcjgcbaaAddP
import Derived.Test.YtmafhaadcjgcbaaMut2
set_option linter.unusedSimpArgs false
set_option linter.unusedVariables false
section
/- a node is copied with all below it: what comes, plain -/
namespace Go.Proofs.Ytmafhaadcjgcbaa
open Go Go.RowKit

/-! ### the nodes below, closed -/
section
variable {m : AModel}
theorem Tree.below_kids (h : Tree m) : ∀ x ∈ m.nodes, ∀ y ∈ m.nodes, y.id ∈ belowL m x.id → ∀ k ∈ y.kids, k ∈ belowL m x.id := by
  refine h.induct fun x hx ih y hy hb k hk => ?_
  rw [h.below_eq hx] at hb ⊢
  obtain ⟨c, hc, hb⟩ := List.mem_flatMap.1 hb
  obtain ⟨z, hz, rfl, _, _⟩ := h.kid hx hc
  refine List.mem_flatMap.2 ⟨z.id, hc, List.mem_cons_of_mem _ ?_⟩
  rcases List.mem_cons.1 hb with hb | hb
  · have e : y = z := by rw [← h.nodeOf hy, ← h.nodeOf hz, hb]
    subst e
    rw [h.below_eq hy]
    exact List.mem_flatMap.2 ⟨k, hk, List.mem_cons_self ..⟩
  · exact ih z hz hc y hy hb k hk
theorem Tree.below_parent (h : Tree m) : ∀ x ∈ m.nodes, ∀ y ∈ m.nodes, y.id ∈ belowL m x.id → y.parent = x.id ∨ y.parent ∈ belowL m x.id := by
  refine h.induct fun x hx ih y hy hb => ?_
  rw [h.below_eq hx] at hb
  obtain ⟨c, hc, hb⟩ := List.mem_flatMap.1 hb
  obtain ⟨z, hz, rfl, ep, _⟩ := h.kid hx hc
  rcases List.mem_cons.1 hb with hb | hb
  · have e : y = z := by rw [← h.nodeOf hy, ← h.nodeOf hz, hb]
    subst e
    exact .inl ep
  · refine .inr ?_
    rw [h.below_eq hx]
    refine List.mem_flatMap.2 ⟨z.id, hc, ?_⟩
    rcases ih z hz hc y hy hb with e | e
    · rw [e]; exact List.mem_cons_self ..
    · exact List.mem_cons_of_mem _ e
theorem Dep.parent {d : Nat} {x : ANode} (h : Tree m) (hx : x ∈ m.nodes) (hd : Dep m d x.id) (hp : x.parent ≠ 0) : ∃ e, d = e + 1 ∧ Dep m e x.parent := by
  generalize hi : x.id = i at hd
  cases hd with
  | root y hy h0 =>
    have e : x = y := by rw [← h.nodeOf hx, ← h.nodeOf hy, hi]
    subst e; exact absurd h0 hp
  | kid e y hy h1 h2 =>
    have e' : x = y := by rw [← h.nodeOf hx, ← h.nodeOf hy, hi]
    subst e'; exact ⟨e, rfl, h2⟩
def ksL (m : AModel) (id : Int) : List Int := id :: belowL m id
theorem Tree.parent_out (h : Tree m) {x : ANode} (hx : x ∈ m.nodes) : x.parent ∉ ksL m x.id := by
  intro hk
  obtain ⟨d, _, hd⟩ := h.dep x hx
  by_cases h0 : x.parent = 0
  · rw [h0] at hk
    rcases List.mem_cons.1 hk with e | e
    · have := id_pos h.ids hx; omega
    · obtain ⟨y, hy, e⟩ := h.below_node x hx 0 e
      have := id_pos h.ids hy; omega
  · obtain ⟨e, rfl, he⟩ := Dep.parent h hx hd h0
    rcases List.mem_cons.1 hk with e1 | e1
    · rw [e1] at he
      have := he.uniq h.ids hd; omega
    · obtain ⟨j, h1, _⟩ := h.below_up x hx _ hd _ e1
      have := h1.uniq h.ids he; omega
theorem ks_nodup (h : Tree m) {x : ANode} (hx : x ∈ m.nodes) : (ksL m x.id).Nodup := List.nodup_cons.2 ⟨h.not_below hx, h.below_nodup x hx⟩
theorem ks_node (h : Tree m) {x : ANode} (hx : x ∈ m.nodes) {k : Int} (hk : k ∈ ksL m x.id) : ∃ y ∈ m.nodes, y.id = k := by
  rcases List.mem_cons.1 hk with rfl | hk
  · exact ⟨x, hx, rfl⟩
  · exact h.below_node x hx k hk
theorem ks_kids (h : Tree m) {x : ANode} (hx : x ∈ m.nodes) {y : ANode} (hy : y ∈ m.nodes) (hk : y.id ∈ ksL m x.id) {k : Int} (hc : k ∈ y.kids) : k ∈ belowL m x.id := by
  rcases List.mem_cons.1 hk with e | hk
  · have e' : y = x := by rw [← h.nodeOf hy, ← h.nodeOf hx, e]
    subst e'
    rw [h.below_eq hy]
    exact List.mem_flatMap.2 ⟨k, hc, List.mem_cons_self ..⟩
  · exact h.below_kids x hx y hy hk k hc
theorem ks_parent (h : Tree m) {x : ANode} (hx : x ∈ m.nodes) {y : ANode} (hy : y ∈ m.nodes) (hk : y.id ∈ belowL m x.id) : y.parent ∈ ksL m x.id := by
  rcases h.below_parent x hx y hy hk with e | e
  · rw [e]; exact List.mem_cons_self ..
  · exact List.mem_cons_of_mem _ e

/-! ### the copies -/
def refTo (nx : Int) (ks : List Int) (r : ARef) : ARef := if r.target ∈ ks then { r with target := nx + idxI ks r.target } else r
def copyN (m : AModel) (ks : List Int) (i : Nat) (y : ANode) : ANode := ⟨m.next + i, y.concept, if i = 0 then 0 else m.next + idxI ks y.parent, y.role, y.props, y.kids.map (fun k => m.next + idxI ks k), y.refs.map (refTo m.next ks)⟩
def copiesTo (m : AModel) (ks : List Int) : Nat → List ANode
  | 0 => []
  | j + 1 => copiesTo m ks j ++ [copyN m ks j (nodeOf m (ks.getD j 0))]
theorem copies_len (m : AModel) (ks : List Int) : ∀ j, (copiesTo m ks j).length = j
  | 0 => rfl
  | j + 1 => by rw [copiesTo, List.length_append, copies_len m ks j]; rfl
theorem copies_at (m : AModel) (ks : List Int) : ∀ j i (h : i < j), (copiesTo m ks j)[i]'(by rw [copies_len]; exact h) = copyN m ks i (nodeOf m (ks.getD i 0))
  | 0, _, h => absurd h (Nat.not_lt_zero _)
  | j + 1, i, h => by
    simp only [copiesTo]
    by_cases hi : i < j
    · rw [List.getElem_append_left (by rw [copies_len]; exact hi)]; exact copies_at m ks j i hi
    · have e : i = j := by omega
      subst e
      rw [List.getElem_append_right (by rw [copies_len]; omega)]
      simp [copies_len]
theorem copies_mem {ks : List Int} {j : Nat} {z : ANode} (h : z ∈ copiesTo m ks j) : ∃ i, i < j ∧ z = copyN m ks i (nodeOf m (ks.getD i 0)) := by
  obtain ⟨i, hi, rfl⟩ := List.getElem_of_mem h
  rw [copies_len] at hi
  exact ⟨i, hi, copies_at m ks j i hi⟩
theorem ks_at {ks : List Int} {i : Nat} (h : i < ks.length) : ks.getD i 0 ∈ ks := by
  rw [List.getD_eq_getElem?_getD, List.getElem?_eq_getElem h]; exact List.getElem_mem h
theorem idx_lt {ks : List Int} {k : Int} (h : k ∈ ks) : 0 ≤ idxI ks k ∧ idxI ks k < ks.length := by
  rcases idxI_cases ks k with ⟨i, hi, _, e, _⟩ | ⟨h2, _⟩
  · omega
  · exact absurd h h2
section
variable (h : CheckM m) {x : ANode} (hx : x ∈ m.nodes) (hf : m.next + (ksL m x.id).length ≤ 1048577)
include h hx hf
omit hx in
theorem copies_srt {j : Nat} (hj : j ≤ (ksL m x.id).length) : SrtB (m.nodes ++ copiesTo m (ksL m x.id) j) := by
  have hs := h.1.srtB
  have hlt : ∀ i (hi : i < m.nodes.length), m.nodes[i].id < m.next := fun i hi => (h.1.2 i hi).2.1
  have h1 := h.1.1
  unfold HeadOK at h1
  have hid : ∀ i (hi : i < (m.nodes ++ copiesTo m (ksL m x.id) j).length) (hn : ¬ i < m.nodes.length), ((m.nodes ++ copiesTo m (ksL m x.id) j)[i]).id = m.next + ((i - m.nodes.length : Nat) : Int) ∧ i - m.nodes.length < j := fun i hi hn => by
    have hi2 : i - m.nodes.length < j := by rw [List.length_append, copies_len] at hi; omega
    rw [List.getElem_append_right (by omega), copies_at _ _ _ _ hi2]
    exact ⟨rfl, hi2⟩
  refine ⟨fun i k hi hk hik => ?_, fun i hi => ?_⟩
  · by_cases hi' : i < m.nodes.length
    · rw [List.getElem_append_left hi']
      by_cases hk' : k < m.nodes.length
      · rw [List.getElem_append_left hk']; exact hs.1 i k hi' hk' hik
      · rw [(hid k hk hk').1]; have := hlt i hi'; omega
    · rw [(hid i hi hi').1, (hid k hk (by omega)).1]; omega
  · by_cases hi' : i < m.nodes.length
    · rw [List.getElem_append_left hi']; exact hs.2 i hi'
    · have := hid i hi hi'
      rw [this.1]; omega
omit hf in
theorem copies_kid {j : Nat} (hj : j ≤ (ksL m x.id).length) {z : ANode} (hz : z ∈ copiesTo m (ksL m x.id) j) {k : Int} (hk : k ∈ z.kids) : ∃ c ∈ belowL m x.id, k = m.next + idxI (ksL m x.id) c ∧ 0 < idxI (ksL m x.id) c ∧ idxI (ksL m x.id) c < (ksL m x.id).length := by
  obtain ⟨i, hi, rfl⟩ := copies_mem hz
  have hm := ks_at (ks := ksL m x.id) (i := i) (by omega)
  obtain ⟨y, hy, e⟩ := ks_node h.tree hx hm
  rw [← e, h.tree.nodeOf hy] at hk
  obtain ⟨c, hc, rfl⟩ := List.mem_map.1 hk
  have hcb := ks_kids h.tree hx hy (by rw [e]; exact hm) hc
  have hl := idx_lt (ks := ksL m x.id) (List.mem_cons_of_mem _ hcb)
  refine ⟨c, hcb, rfl, ?_, hl.2⟩
  rcases idxI_cases (ksL m x.id) c with ⟨q, hq, e1, e2, _⟩ | ⟨h2, _⟩
  · by_cases h0 : q = 0
    · subst h0
      have e3 : x.id = c := e1
      rw [← e3] at hcb
      exact absurd hcb (h.tree.not_below hx)
    · omega
  · exact absurd (List.mem_cons_of_mem _ hcb) h2
omit hf in
theorem copies_closed : Closed (m.nodes ++ copiesTo m (ksL m x.id) (ksL m x.id).length) := by
  intro z hz k hk
  rw [List.map_append]
  rcases List.mem_append.1 hz with hz | hz
  · obtain ⟨y, hy, e, _⟩ := h.tree.kid hz hk
    exact List.mem_append_left _ (List.mem_map.2 ⟨y, hy, e⟩)
  · obtain ⟨c, hc, rfl, h1, h2⟩ := copies_kid h hx (Nat.le_refl _) hz hk
    refine List.mem_append_right _ (List.mem_map.2 ⟨_, List.getElem_mem (n := (idxI (ksL m x.id) c).toNat) (by rw [copies_len]; omega), ?_⟩)
    rw [copies_at _ _ _ _ (by omega)]
    show m.next + _ = _
    omega
theorem copies_kidsR (hr : ∀ y ∈ m.nodes, ∀ k ∈ y.kids, InR k) {j : Nat} (hj : j ≤ (ksL m x.id).length) : ∀ z ∈ m.nodes ++ copiesTo m (ksL m x.id) j, ∀ k ∈ z.kids, InR k := by
  intro z hz k hk
  rcases List.mem_append.1 hz with hz | hz
  · exact hr z hz k hk
  · obtain ⟨c, _, rfl, h1, h2⟩ := copies_kid h hx hj hz hk
    have h3 := h.1.1
    unfold HeadOK at h3
    unfold InR
    omega
omit h hx hf in
theorem copies_first : ∃ z ∈ m.nodes ++ copiesTo m (ksL m x.id) (ksL m x.id).length, z.id = m.next := by
  refine ⟨_, List.mem_append_right _ (List.getElem_mem (n := 0) (by rw [copies_len]; simp [ksL])), ?_⟩
  rw [copies_at _ _ _ _ (by simp [ksL])]
  show m.next + ((0 : Nat) : Int) = m.next
  omega
omit hf in
theorem copies_nokid : ∀ z ∈ m.nodes ++ copiesTo m (ksL m x.id) (ksL m x.id).length, m.next ∉ z.kids := by
  intro z hz hk
  rcases List.mem_append.1 hz with hz | hz
  · obtain ⟨y, hy, e, _⟩ := h.tree.kid hz hk
    obtain ⟨i, hi, rfl⟩ := List.getElem_of_mem hy
    have := (h.1.2 i hi).2.1
    omega
  · obtain ⟨c, _, e, h1, _⟩ := copies_kid h hx (Nat.le_refl _) hz hk
    omega
omit hx in
/-- the kids in a role are those that they were -/
theorem copies_inL {j : Nat} (hj : j ≤ (ksL m x.id).length) {y : ANode} (hy : y ∈ m.nodes) (nx : Int) (role : ByteArray) : inL ⟨nx, m.nodes ++ copiesTo m (ksL m x.id) j⟩ y role = inL m y role := by
  unfold inL
  apply List.filter_congr
  intro k hk
  obtain ⟨z, hz, e, _⟩ := h.tree.kid hy hk
  subst e
  unfold roleB
  rw [h.tree.nodeOf hz, nodeOf_srt (m := ⟨nx, m.nodes ++ copiesTo m (ksL m x.id) j⟩) (copies_srt (x := x) h hf hj) (List.mem_append_left _ hz)]
omit hx in
theorem copies_place {p a d high : Int} {role : ByteArray} (hp : p = 0 ∨ ∃ y ∈ m.nodes, y.id = p) (hg : goalE m p role a d high = 0) (nx : Int) : PlaceAt nx (m.nodes ++ copiesTo m (ksL m x.id) (ksL m x.id).length) m.next p role a (iOf m p role a) := by
  have hne : p = 0 ∨ p ≠ m.next := by
    rcases hp with h0 | ⟨y, hy, rfl⟩
    · exact .inl h0
    · obtain ⟨i, hi, rfl⟩ := List.getElem_of_mem hy
      have := (h.1.2 i hi).2.1
      exact .inr (by omega)
  rcases hne with h0 | hne
  · exact .inl h0
  · rcases place_of h.tree.fam (check_kids4 h) hne hp hg with h0 | ⟨y, hy, e, h1, h2, h3⟩
    · exact .inl h0
    · refine .inr ⟨y, List.mem_append_left _ hy, e, h1, h2, ?_⟩
      rw [copies_inL (x := x) h hf (Nat.le_refl _) hy]
      exact h3
end
end

/-! ### what Copy makes -/
open Classical in
noncomputable def copyE (m : AModel) (id p : Int) (role : ByteArray) (a : Int) : Int :=
  if ¬ CheckM m then 29 else if p ≠ 0 ∧ wordA role = false then 2 else if atI m.nodes id < 0 ∨ (p ≠ 0 ∧ atI m.nodes p < 0) then 20
  else if goalE m p role a (dN m p) (heightN m id : Nat) ≠ 0 then goalE m p role a (dN m p) (heightN m id : Nat)
  else if 4096 < m.nodes.length + (ksL m id).length ∨ 1048577 < m.next + (ksL m id).length then 4 else 0
noncomputable def copyL (m : AModel) (id p : Int) (role : ByteArray) (a : Int) : List ANode := placeN (m.nodes ++ copiesTo m (ksL m id) (ksL m id).length) m.next p role (iOf m p role a).toNat
section
variable {m : AModel} {id p a : Int} {role : ByteArray}
open Classical in
theorem copyE_check (h : ¬ CheckM m) : copyE m id p role a = 29 := if_pos h
open Classical in
theorem copyE_word (h : CheckM m) (hp : p ≠ 0) (hw : wordA role = false) : copyE m id p role a = 2 := by unfold copyE; rw [if_neg (fun e => e h), if_pos ⟨hp, hw⟩]
open Classical in
theorem copyE_node (h : CheckM m) (hw : p ≠ 0 → wordA role = true) (hn : atI m.nodes id < 0 ∨ (p ≠ 0 ∧ atI m.nodes p < 0)) : copyE m id p role a = 20 := by
  unfold copyE; rw [if_neg (fun e => e h), if_neg (fun e => by rw [hw e.1] at e; exact absurd e.2 (by simp)), if_pos hn]
section
variable (h : CheckM m) (hw : p ≠ 0 → wordA role = true) (hn : ¬ (atI m.nodes id < 0 ∨ (p ≠ 0 ∧ atI m.nodes p < 0)))
include h hw hn
open Classical in
theorem copyE_goal (hg : goalE m p role a (dN m p) (heightN m id : Nat) ≠ 0) : copyE m id p role a = goalE m p role a (dN m p) (heightN m id : Nat) := by
  unfold copyE; rw [if_neg (fun e => e h), if_neg (fun e => by rw [hw e.1] at e; exact absurd e.2 (by simp)), if_neg hn, if_pos hg]
open Classical in
theorem copyE_full (hg : goalE m p role a (dN m p) (heightN m id : Nat) = 0) (hl : 4096 < m.nodes.length + (ksL m id).length ∨ 1048577 < m.next + (ksL m id).length) : copyE m id p role a = 4 := by
  unfold copyE; rw [if_neg (fun e => e h), if_neg (fun e => by rw [hw e.1] at e; exact absurd e.2 (by simp)), if_neg hn, if_neg (fun e => e hg), if_pos hl]
open Classical in
theorem copyE_ok (hg : goalE m p role a (dN m p) (heightN m id : Nat) = 0) (hl : ¬ (4096 < m.nodes.length + (ksL m id).length ∨ 1048577 < m.next + (ksL m id).length)) : copyE m id p role a = 0 := by
  unfold copyE; rw [if_neg (fun e => e h), if_neg (fun e => by rw [hw e.1] at e; exact absurd e.2 (by simp)), if_neg hn, if_neg (fun e => e hg), if_neg hl]
end
end
/-- a result of Copy: a model, the copy's number, an error -/
def ResCopy (w' : World) (base : Nat) (next more E : Int) (ns : List ANode) (v : Value) : Prop :=
  (E ≠ 0 ∧ v = .tuple #[.agg #[.int .i64 0, .slice none 0 0], .int .i64 0, .int .i64 E]) ∨
  (E = 0 ∧ ∃ vl, v = .tuple #[.agg #[.int .i64 (next + more), vl], .int .i64 next, .int .i64 0] ∧ IsRow 7 ENode w' (fun b => base ≤ b ∧ b < w'.heap.size) vl ns)
end Go.Proofs.Ytmafhaadcjgcbaa
end
section
/- what the walks of Copy lean on -/
namespace Go.Proofs.Ytmafhaadcjgcbaa
open Go Go.RowKit

section
variable {w : World} {base : Nat} {v : Value} {l : List Int}
/-- a row of numbers more, in the text's order -/
theorem wpList_joinI {ops : Array Oper} {rest : List Oper} {o : Oper} {a : Act} {Q : Exit → Act → World → Prop} (hgd : o.guard = none) (s x : Operand)
    (ho : o.op = .call { callee := .builtin .append, args := #[s, x], argTypes := #[35, 35] }) (hs : a.eval s = v) (hown : OwnI w base v l) (A : Option Addr) (c : Nat) (l2 : List Int) (F : Nat → Prop) (hx : a.eval x = .slice A l2.length c) (hrow : RowOf 1 EInt w F A l2)
    (hl : l.length + l2.length ≤ 1048576) (hbase : base ≤ w.heap.size)
    (h : ∀ A' c' w', OwnI w' base (.slice A' (l.length + l2.length) c') (l ++ l2) → w.grownBy w' v.ownBlock → ((Value.slice A' (l.length + l2.length) c').ownBlock = v.ownBlock ∨ (Value.slice A' (l.length + l2.length) c').ownBlock = some w.heap.size) → wpList Try.prog ops Q rest (a.put o.dst (.slice A' (l.length + l2.length) c')) w') : wpList Try.prog ops Q (o :: rest) a w :=
  wpList_append_from w hgd s x 35 ho base 3 Try.underlying35 int_info rfl (by omega) v l.length (l.map (Value.int .i64)) hs hown A l2.length c (l2.map (Value.int .i64)) hx (by simp) (fun e => by subst e; rw [hrow.none_nil]; rfl)
    (fun ad e => by have := hrow.cellsFrom intCells_len ad e; rw [intCells_map] at this; exact this) (by simp [Value.oneCell']) (by unfold maxLen; omega) (by omega) hbase
    fun A' c' w' h2 h3 h4 => h A' c' w' (by unfold OwnI; simpa using h2) h3 h4
end
theorem heap_set7 {w : World} {g b : Nat} {b0 b1 b2 b3 b4 b5 b6 : Value} (h : b ≠ g) :
    (((((((w.setCell ⟨g, 0, none⟩ b0).setCell ⟨g, 1, none⟩ b1).setCell ⟨g, 2, none⟩ b2).setCell ⟨g, 3, none⟩ b3).setCell ⟨g, 4, none⟩ b4).setCell ⟨g, 5, none⟩ b5).setCell ⟨g, 6, none⟩ b6).heap[b]? = w.heap[b]? :=
  (Below.heap_setCell _ _ _ _ h).trans ((Below.heap_setCell _ _ _ _ h).trans ((Below.heap_setCell _ _ _ _ h).trans ((Below.heap_setCell _ _ _ _ h).trans ((Below.heap_setCell _ _ _ _ h).trans ((Below.heap_setCell _ _ _ _ h).trans (Below.heap_setCell _ _ _ _ h))))))
/-- what is owned, where but blocks that it does not own have changed -/
theorem OwnM.aside {w w' : World} {base : Nat} {v : Value} {l : List LN} (h : OwnM w base v l) (hk : ∀ b, some b ∈ (v.ownBlock :: allBlocks l) → w'.heap[b]? = w.heap[b]?) : OwnM w' base v l :=
  ⟨own_keep h.row fun b e => hk b (by rw [e]; exact List.mem_cons_self ..), fun _ hx => (h.lists _ hx).keep fun b e => hk b (List.mem_cons_of_mem _ (mem_all hx e)), h.dis⟩
/-- a list whose first i elements are changed -/
def partTo {α : Type} (f : α → α) (l : List α) (i : Nat) : List α := (l.take i).map f ++ l.drop i
section
variable {α : Type} {f : α → α} {l : List α}
theorem partTo_len (i : Nat) : (partTo f l i).length = l.length := by unfold partTo; simp; omega
theorem partTo_zero : partTo f l 0 = l := by simp [partTo]
theorem partTo_all {i : Nat} (h : l.length ≤ i) : partTo f l i = l.map f := by unfold partTo; rw [List.take_of_length_le h, List.drop_eq_nil_of_le h, List.append_nil]
theorem partTo_at {i : Nat} (h : i < l.length) : (partTo f l i)[i]'(by rw [partTo_len]; exact h) = l[i] := by
  unfold partTo
  rw [List.getElem_append_right (by simp; omega)]
  simp [Nat.min_eq_left (Nat.le_of_lt h)]
theorem partTo_set {i : Nat} (h : i < l.length) : (partTo f l i).set i (f l[i]) = partTo f l (i + 1) := by
  unfold partTo
  have hl : ((l.take i).map f).length = i := by simp; omega
  rw [List.set_append_right _ _ (by omega), hl, Nat.sub_self, List.drop_eq_getElem_cons h, List.set_cons_zero, List.take_succ_eq_append_getElem h, List.map_append, List.append_assoc]
  rfl
theorem partTo_skip {i : Nat} (h : i < l.length) (e : f l[i] = l[i]) : partTo f l i = partTo f l (i + 1) := by
  rw [← partTo_set h, e]
  apply List.ext_getElem
  · simp
  · intro j h1 h2
    by_cases hij : i = j
    · subst hij; rw [List.getElem_set_self, partTo_at h]
    · rw [List.getElem_set_ne hij]
end
end Go.Proofs.Ytmafhaadcjgcbaa
end
