import Derived.Test.YtpkapommekkbcaaDoorModel
import Derived.Test.YtpkapommekkbcaaDoorAPlain
set_option linter.unusedSimpArgs false
set_option linter.unusedVariables false
namespace Go.Proofs.YtpkapommekkbcaaDoor
open Go Go.RowKit

/-! ### Document order, in plain Lean -/
def nodeOf (m : AModel) (id : Int) : ANode := (m.nodes.find? (fun n => n.id == id)).getD ⟨0, ByteArray.empty, 0, ByteArray.empty, [], [], []⟩
theorem nodeOf_eq {m : AModel} (h : ∀ i, IdAt m i) {x : ANode} (hx : x ∈ m.nodes) : nodeOf m x.id = x := by
  unfold nodeOf
  cases hf : m.nodes.find? (fun n => n.id == x.id) with
  | none => have := List.find?_eq_none.1 hf x hx; simp at this
  | some y =>
    have h1 := List.find?_some hf
    have h2 := List.mem_of_find?_eq_some hf
    exact node_inj h h2 hx (by simpa using h1)
def bel (m : AModel) : Nat → Int → List Int
  | 0, _ => []
  | f + 1, id => (nodeOf m id).kids.flatMap fun k => k :: bel m f k
/-- what is below a node, in document order -/
def belowL (m : AModel) (id : Int) : List Int := bel m 64 id
/-- how deep a node stands -/
inductive Dep (m : AModel) : Nat → Int → Prop
  | root (x : ANode) : x ∈ m.nodes → x.parent = 0 → Dep m 1 x.id
  | kid (d : Nat) (x : ANode) : x ∈ m.nodes → x.parent ≠ 0 → Dep m d x.parent → Dep m (d + 1) x.id
section
variable {m : AModel}
theorem Dep.pos {d : Nat} {id : Int} (h : Dep m d id) : 1 ≤ d := by cases h <;> omega
theorem Dep.node {d : Nat} {id : Int} (h : Dep m d id) : ∃ x ∈ m.nodes, x.id = id := by
  cases h with
  | root x hx _ => exact ⟨x, hx, rfl⟩
  | kid d x hx _ _ => exact ⟨x, hx, rfl⟩
theorem Dep.uniq (hi : ∀ i, IdAt m i) {d e : Nat} {id : Int} (h : Dep m d id) (h' : Dep m e id) : d = e := by
  induction h generalizing e with
  | root x hx h0 =>
    generalize hid : x.id = id at h'
    cases h' with
    | root => rfl
    | kid e y hy hp _ =>
      have := node_inj hi hx hy hid
      subst this; exact absurd h0 hp
  | kid d x hx hp hd ih =>
    generalize hid : x.id = id at h'
    cases h' with
    | root y hy h0 =>
      have := node_inj hi hx hy hid
      subst this; exact absurd h0 hp
    | kid e y hy hp' hd' =>
      have := node_inj hi hx hy hid
      subst this
      rw [ih hd']
theorem Dep.of_up : ∀ f, ∀ x ∈ m.nodes, Up m f x → ∃ d, d ≤ f ∧ Dep m d x.id := by
  intro f
  induction f with
  | zero => intro x _ h; exact h.elim
  | succ f ih =>
    intro x hx h
    by_cases h0 : x.parent = 0
    · exact ⟨1, by omega, .root x hx h0⟩
    · rcases h with h | ⟨y, hy, e, hu⟩
      · exact absurd h h0
      · obtain ⟨d, hd, hD⟩ := ih y hy hu
        exact ⟨d + 1, by omega, .kid d x hx h0 (by rw [← e]; exact hD)⟩
/-- a model whose nodes all stand below roots -/
structure Tree (m : AModel) : Prop where
  ids : ∀ i, IdAt m i
  kids : ∀ n ∈ m.nodes, KidsAt m n
  met : ∀ n ∈ m.nodes, Met m n
  dep : ∀ x ∈ m.nodes, ∃ d, d ≤ 64 ∧ Dep m d x.id
theorem CheckM.tree (h : CheckM m) : Tree m := ⟨h.1.2, h.2.2.1, h.2.2.2.1, fun x hx => Dep.of_up 64 x hx (h.2.2.2.2 x hx)⟩
theorem Tree.nodeOf (h : Tree m) {x : ANode} (hx : x ∈ m.nodes) : nodeOf m x.id = x := nodeOf_eq h.ids hx
theorem Tree.kid (h : Tree m) {x : ANode} (hx : x ∈ m.nodes) {k : Int} (hk : k ∈ x.kids) : ∃ y ∈ m.nodes, y.id = k ∧ y.parent = x.id ∧ y.parent ≠ 0 := by
  obtain ⟨y, hy, e1, e2⟩ := h.kids x hx k hk
  exact ⟨y, hy, e1, e2, by have := id_pos h.ids hx; omega⟩
theorem Tree.dep_kid (h : Tree m) {x : ANode} (hx : x ∈ m.nodes) {d : Nat} (hd : Dep m d x.id) {k : Int} (hk : k ∈ x.kids) : Dep m (d + 1) k ∧ d + 1 ≤ 64 := by
  obtain ⟨y, hy, rfl, e2, e3⟩ := h.kid hx hk
  have h1 : Dep m (d + 1) y.id := .kid d y hy e3 (by rw [e2]; exact hd)
  obtain ⟨e, he, hE⟩ := h.dep y hy
  have := h1.uniq h.ids hE
  exact ⟨h1, by omega⟩
theorem Tree.bel_stable (h : Tree m) : ∀ n d (x : ANode), x ∈ m.nodes → Dep m d x.id → 64 - d ≤ n → ∀ f f', n + 1 ≤ f → n + 1 ≤ f' → bel m f x.id = bel m f' x.id := by
  intro n
  induction n with
  | zero =>
    intro d x hx hd hn f f' hf hf'
    obtain ⟨f, rfl⟩ : ∃ g, f = g + 1 := ⟨f - 1, by omega⟩
    obtain ⟨f', rfl⟩ : ∃ g, f' = g + 1 := ⟨f' - 1, by omega⟩
    unfold bel
    rw [h.nodeOf hx]
    have : x.kids = [] := by
      cases hk : x.kids with
      | nil => rfl
      | cons k r =>
        have := (h.dep_kid hx hd (k := k) (by rw [hk]; simp)).2
        omega
    rw [this]; rfl
  | succ n ih =>
    intro d x hx hd hn f f' hf hf'
    obtain ⟨f, rfl⟩ : ∃ g, f = g + 1 := ⟨f - 1, by omega⟩
    obtain ⟨f', rfl⟩ : ∃ g, f' = g + 1 := ⟨f' - 1, by omega⟩
    unfold bel
    rw [h.nodeOf hx]
    rw [List.flatMap_def, List.flatMap_def]
    congr 1
    apply List.map_congr_left
    intro k hk
    obtain ⟨y, hy, rfl, _, _⟩ := h.kid hx hk
    rw [ih (d + 1) y hy (h.dep_kid hx hd hk).1 (by omega) f f' (by omega) (by omega)]
theorem Tree.bel_eq (h : Tree m) {x : ANode} (hx : x ∈ m.nodes) {f : Nat} (hf : 64 ≤ f) : bel m f x.id = belowL m x.id := by
  obtain ⟨d, _, hd⟩ := h.dep x hx
  have := hd.pos
  exact h.bel_stable (64 - d) d x hx hd (Nat.le_refl _) f 64 (by omega) (by omega)
theorem Tree.below_eq (h : Tree m) {x : ANode} (hx : x ∈ m.nodes) : belowL m x.id = x.kids.flatMap fun k => k :: belowL m k := by
  rw [← h.bel_eq hx (f := 65) (by omega)]
  show (Go.Proofs.YtpkapommekkbcaaDoor.nodeOf m x.id).kids.flatMap (fun k => k :: bel m 64 k) = _
  rw [h.nodeOf hx]
  rfl
/-- induction from the leaves up -/
theorem Tree.induct (h : Tree m) {Q : ANode → Prop} (hq : ∀ x ∈ m.nodes, (∀ y ∈ m.nodes, y.id ∈ x.kids → Q y) → Q x) : ∀ x ∈ m.nodes, Q x := by
  have key : ∀ n d (x : ANode), x ∈ m.nodes → Dep m d x.id → 64 - d ≤ n → Q x := by
    intro n
    induction n with
    | zero =>
      intro d x hx hd hn
      exact hq x hx fun y _ hk => by have := (h.dep_kid hx hd hk).2; omega
    | succ n ih =>
      intro d x hx hd hn
      exact hq x hx fun y hy hk => ih (d + 1) y hy (h.dep_kid hx hd hk).1 (by omega)
  intro x hx
  obtain ⟨d, _, hd⟩ := h.dep x hx
  exact key (64 - d) d x hx hd (Nat.le_refl _)
theorem Tree.below_node (h : Tree m) : ∀ x ∈ m.nodes, ∀ k ∈ belowL m x.id, ∃ y ∈ m.nodes, y.id = k := by
  refine h.induct fun x hx ih k hk => ?_
  rw [h.below_eq hx] at hk
  obtain ⟨c, hc, hk⟩ := List.mem_flatMap.1 hk
  obtain ⟨y, hy, rfl, _, _⟩ := h.kid hx hc
  rcases List.mem_cons.1 hk with rfl | hk
  · exact ⟨y, hy, rfl⟩
  · exact ih y hy hc k hk
/-- the j-th one up -/
def upI (m : AModel) : Nat → Int → Int
  | 0, id => id
  | j + 1, id => upI m j (nodeOf m id).parent
theorem upI_succ (m : AModel) : ∀ j id, upI m (j + 1) id = (nodeOf m (upI m j id)).parent := by
  intro j
  induction j with
  | zero => intro id; rfl
  | succ j ih => intro id; show upI m (j + 1) (nodeOf m id).parent = _; rw [ih]; rfl
/-- whoever is below a node has it above it -/
theorem Tree.below_up (h : Tree m) : ∀ x ∈ m.nodes, ∀ d, Dep m d x.id → ∀ k ∈ belowL m x.id, ∃ j, Dep m (d + (j + 1)) k ∧ upI m (j + 1) k = x.id := by
  refine h.induct fun x hx ih d hd k hk => ?_
  rw [h.below_eq hx] at hk
  obtain ⟨c, hc, hk⟩ := List.mem_flatMap.1 hk
  obtain ⟨y, hy, rfl, e2, _⟩ := h.kid hx hc
  have hdk := (h.dep_kid hx hd hc).1
  rcases List.mem_cons.1 hk with rfl | hk
  · exact ⟨0, hdk, by show (Go.Proofs.YtpkapommekkbcaaDoor.nodeOf m y.id).parent = x.id; rw [h.nodeOf hy]; exact e2⟩
  · obtain ⟨j, h1, h2⟩ := ih y hy hc (d + 1) hdk k hk
    refine ⟨j + 1, by rw [show d + (j + 1 + 1) = d + 1 + (j + 1) by omega]; exact h1, ?_⟩
    rw [upI_succ, h2, h.nodeOf hy]; exact e2
theorem Tree.not_below (h : Tree m) {x : ANode} (hx : x ∈ m.nodes) : x.id ∉ belowL m x.id := fun hk => by
  obtain ⟨d, _, hd⟩ := h.dep x hx
  obtain ⟨j, h1, _⟩ := h.below_up x hx d hd _ hk
  have := h1.uniq h.ids hd
  omega
theorem Tree.kids_nodup (h : Tree m) {x : ANode} (hx : x ∈ m.nodes) : x.kids.Nodup := List.nodup_iff_count.2 fun k => by
  by_cases hk : k ∈ x.kids
  · obtain ⟨y, hy, e1, _, e3⟩ := h.kid hx hk
    have hc := (h.met y hy).2 e3
    have := cnt_le hx k
    rw [← e1] at this ⊢
    omega
  · rw [List.count_eq_zero.2 hk]; omega
theorem flat_nodup {α β : Type} {l : List α} {f : α → List β} (hl : l.Nodup) (h1 : ∀ a ∈ l, (f a).Nodup) (h2 : ∀ a ∈ l, ∀ b ∈ l, a ≠ b → ∀ x ∈ f a, x ∉ f b) : (l.flatMap f).Nodup := by
  induction l with
  | nil => simp
  | cons a r ih =>
    rw [List.flatMap_cons, List.nodup_append]
    have hn := List.nodup_cons.1 hl
    refine ⟨h1 a (by simp), ih hn.2 (fun b hb => h1 b (by simp [hb])) (fun b hb c hc => h2 b (by simp [hb]) c (by simp [hc])), fun x hx y hy e => ?_⟩
    subst e
    obtain ⟨b, hb, hxb⟩ := List.mem_flatMap.1 hy
    exact h2 a (by simp) b (by simp [hb]) (fun e => hn.1 (by rw [e]; exact hb)) x hx hxb
theorem Tree.below_nodup (h : Tree m) : ∀ x ∈ m.nodes, (belowL m x.id).Nodup := by
  refine h.induct fun x hx ih => ?_
  rw [h.below_eq hx]
  obtain ⟨d, _, hd⟩ := h.dep x hx
  refine flat_nodup (h.kids_nodup hx) (fun k hk => ?_) (fun k hk c hc hne z hz hz' => ?_)
  · obtain ⟨y, hy, rfl, _, _⟩ := h.kid hx hk
    exact List.nodup_cons.2 ⟨h.not_below hy, ih y hy hk⟩
  · obtain ⟨y, hy, rfl, e2, _⟩ := h.kid hx hk
    obtain ⟨u, hu, rfl, e4, _⟩ := h.kid hx hc
    have d1 := (h.dep_kid hx hd hk).1
    have d2 := (h.dep_kid hx hd hc).1
    have one : ∀ v ∈ m.nodes, Dep m (d + 1) v.id → z ∈ v.id :: belowL m v.id → ∃ j, Dep m (d + 1 + j) z ∧ upI m j z = v.id := fun v hv hdv hz => by
      rcases List.mem_cons.1 hz with rfl | hz
      · exact ⟨0, hdv, rfl⟩
      · obtain ⟨j, h1, h2⟩ := h.below_up v hv (d + 1) hdv z hz
        exact ⟨j + 1, h1, h2⟩
    obtain ⟨j, j1, j2⟩ := one y hy d1 hz
    obtain ⟨i, i1, i2⟩ := one u hu d2 hz'
    have := j1.uniq h.ids i1
    have : i = j := by omega
    subst this
    exact hne (by rw [← j2, ← i2])
theorem len_le {l L : List Int} (hd : l.Nodup) (hs : ∀ x ∈ l, x ∈ L) : l.length ≤ L.length := by
  induction l generalizing L with
  | nil => simp
  | cons a r ih =>
    have hn := List.nodup_cons.1 hd
    have ha := hs a (by simp)
    have h1 := ih hn.2 (L := L.erase a) (fun x hx => by
      have hne : x ≠ a := fun e => hn.1 (by rw [← e]; exact hx)
      exact (List.mem_erase_of_ne hne).2 (hs x (by simp [hx])))
    rw [List.length_erase_of_mem ha] at h1
    have : 0 < L.length := List.length_pos_of_mem ha
    simp; omega
theorem Tree.below_len (h : Tree m) {x : ANode} (hx : x ∈ m.nodes) : (belowL m x.id).length ≤ m.nodes.length := by
  have := len_le (h.below_nodup x hx) (L := m.nodes.map (·.id)) (fun k hk => by
    obtain ⟨y, hy, rfl⟩ := h.below_node x hx k hk
    exact List.mem_map.2 ⟨y, hy, rfl⟩)
  simpa using this

/-- all nodes, in document order -/
def rootsL (m : AModel) : List Int := (m.nodes.filter (fun n => n.parent == 0)).map (·.id)
def orderL (m : AModel) : List Int := (rootsL m).flatMap fun r => r :: belowL m r
theorem root_node {r : Int} (hr : r ∈ rootsL m) : ∃ x ∈ m.nodes, x.id = r ∧ x.parent = 0 := by
  obtain ⟨x, hx, e⟩ := List.mem_map.1 hr
  obtain ⟨h1, h2⟩ := List.mem_filter.1 hx
  exact ⟨x, h1, e, by simpa using h2⟩
theorem Tree.order_node (h : Tree m) {k : Int} (hk : k ∈ orderL m) : ∃ y ∈ m.nodes, y.id = k := by
  obtain ⟨r, hr, hk⟩ := List.mem_flatMap.1 hk
  obtain ⟨x, hx, rfl, _⟩ := root_node hr
  rcases List.mem_cons.1 hk with rfl | hk
  · exact ⟨x, hx, rfl⟩
  · exact h.below_node x hx k hk
theorem Tree.roots_nodup (h : Tree m) : (rootsL m).Nodup := by
  unfold rootsL
  have hnd : (m.nodes.map (·.id)).Nodup := by
    unfold List.Nodup
    rw [List.pairwise_map]
    exact List.pairwise_iff_getElem.2 fun i j hi hj hij e => by
      have := ids_lt h.ids i j hi hj hij
      omega
  exact List.Nodup.sublist (List.Sublist.map _ (List.filter_sublist)) hnd
theorem Tree.order_nodup (h : Tree m) : (orderL m).Nodup := by
  refine flat_nodup h.roots_nodup (fun r hr => ?_) (fun r hr c hc hne z hz hz' => ?_)
  · obtain ⟨x, hx, rfl, _⟩ := root_node hr
    exact List.nodup_cons.2 ⟨h.not_below hx, h.below_nodup x hx⟩
  · obtain ⟨x, hx, rfl, h0⟩ := root_node hr
    obtain ⟨u, hu, rfl, h0'⟩ := root_node hc
    have one : ∀ v ∈ m.nodes, v.parent = 0 → z ∈ v.id :: belowL m v.id → ∃ j, Dep m (1 + j) z ∧ upI m j z = v.id := fun v hv hp hz => by
      rcases List.mem_cons.1 hz with rfl | hz
      · exact ⟨0, .root v hv hp, rfl⟩
      · obtain ⟨j, h1, h2⟩ := h.below_up v hv 1 (.root v hv hp) z hz
        exact ⟨j + 1, h1, h2⟩
    obtain ⟨j, j1, j2⟩ := one x hx h0 hz
    obtain ⟨i, i1, i2⟩ := one u hu h0' hz'
    have := j1.uniq h.ids i1
    have : i = j := by omega
    subst this
    exact hne (by rw [← j2, ← i2])
theorem Tree.order_len (h : Tree m) : (orderL m).length ≤ m.nodes.length := by
  have := len_le h.order_nodup (L := m.nodes.map (·.id)) (fun k hk => by
    obtain ⟨y, hy, rfl⟩ := h.order_node hk
    exact List.mem_map.2 ⟨y, hy, rfl⟩)
  simpa using this
end
end Go.Proofs.YtpkapommekkbcaaDoor
