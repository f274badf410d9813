import Derived.Test.YtmafhaadcjgcbaaDoneP
import Derived.Test.YtmafhaadcjgcbaaQTail
import Derived.Lib.BufSteps
import Derived.Laws.IdiomStrings
import Derived.Laws.BytesArg
import Derived.Test.YtmafhaadcjgcbaaATellsA
set_option linter.unusedSimpArgs false
set_option linter.unusedVariables false
section
/- what is added and taken away again, and what is moved away and back, in plain Lean -/
namespace Go.Proofs.Ytmafhaadcjgcbaa
open Go Go.RowKit

section
variable {m : AModel} {p a : Int} {role concept : ByteArray}
theorem keepQ_ins {l : List Int} {q : Nat} {k : Int} (h : k ∉ l) : keepQ (fun c => c == k) (insAt l q k) = l := by
  unfold keepQ insAt
  rw [List.filter_append, List.filter_cons_of_neg (by simp), ← List.filter_append, List.take_append_drop]
  exact List.filter_eq_self.2 fun c hc => by
    have : c ≠ k := fun e => h (e ▸ hc)
    simp [this]
theorem added_new (h : addE m p role a concept = 0) : ∃ z ∈ (addM m p role a concept).nodes, z.id = m.next ∧ z.kids = [] ∧ z.parent = p := by
  obtain ⟨h1, _, _, _, h5⟩ := add_ok0 h
  rcases h5 with ⟨rfl, e⟩ | ⟨hp, _, j, hj, rfl, _, i, _, e⟩
  · rw [e]; exact ⟨newN m concept 0 ⟨#[]⟩, List.mem_append_right _ (List.mem_singleton_self _), rfl, rfl, rfl⟩
  · rw [e]; exact ⟨newN m concept m.nodes[j].id role, List.mem_append_right _ (List.mem_singleton_self _), rfl, rfl, rfl⟩
theorem add_check (h : addE m p role a concept = 0) : CheckM (addM m p role a concept) := by
  obtain ⟨h1, h2, h3, h4, h5⟩ := add_ok0 h
  rcases h5 with ⟨_, e⟩ | ⟨_, hw, j, hj, rfl, ⟨d, hd, hd6⟩, i, _, e⟩
  · rw [e]; exact addRoot_check h1 h2 h3 h4
  · rw [e]; exact addKid_check h1 hj h2 hw h3 h4 hd hd6 i
/-- a node more taken away again -/
theorem add_removed (h : addE m p role a concept = 0) : removeE (addM m p role a concept) m.next = 0 ∧ removeL (addM m p role a concept) m.next = m.nodes := by
  have hX := add_check h
  obtain ⟨z, hz, hzi, hzk, hzp⟩ := added_new h
  have hno : nodeOf (addM m p role a concept) m.next = z := by rw [← hzi]; exact hX.tree.nodeOf hz
  have hbl : belowL (addM m p role a concept) m.next = [] := by
    have := hX.tree.below_eq hz
    rw [hzi, hzk] at this; exact this
  obtain ⟨h1, _, _, _, h5⟩ := add_ok0 h
  have hlt := ids_in h1.1.2
  constructor
  · refine removeE_ok hX ?_
    obtain ⟨j, hj, ej⟩ := List.getElem_of_mem hz
    have h2 := atI_some (id := m.next) hX.1.srt hj (by rw [ej]; exact hzi)
    rw [h2]; omega
  · unfold removeL
    rw [hno, hbl]
    show (unhangN (addM m p role a concept).nodes z.parent z.id).filter _ = _
    rw [hzp, hzi]
    have keep : ∀ y ∈ m.nodes, (!decide (y.id ∈ ([] : List Int) ++ [m.next])) = true := fun y hy => by
      have h3 := hlt y hy
      rw [decide_eq_false (fun e => by have := List.mem_singleton.1 (show y.id ∈ [m.next] from e); omega)]; rfl
    rcases h5 with ⟨rfl, e⟩ | ⟨hp, hw, j, hj, rfl, _, i, _, e⟩
    · rw [e]
      show (unhangN (m.nodes ++ [newN m concept 0 ⟨#[]⟩]) 0 m.next).filter _ = _
      rw [unhangN_none (fun y hy => by
        rcases List.mem_append.1 hy with hy | hy
        · have := hlt y hy; omega
        · rw [List.mem_singleton.1 hy]; show m.next ≠ 0; have := h1.1.1.1; omega)]
      rw [List.filter_append, List.filter_eq_self.2 keep, List.filter_cons_of_neg (by simp [newN]), List.filter_nil, List.append_nil]
    · rw [e]
      show (unhangN (m.nodes.set j { m.nodes[j] with kids := insAt m.nodes[j].kids i m.next } ++ [newN m concept m.nodes[j].id role]) m.nodes[j].id m.next).filter _ = _
      unfold unhangN
      have hnk : m.next ∉ m.nodes[j].kids := fun hk => by
        obtain ⟨w, hw1, e1, _⟩ := h1.tree.kid (List.getElem_mem hj) hk
        have := hlt w hw1
        omega
      have hm : (m.nodes.set j { m.nodes[j] with kids := insAt m.nodes[j].kids i m.next }).map (fun y => if y.id = m.nodes[j].id then { y with kids := keepQ (fun k => k == m.next) y.kids } else y) = m.nodes := by
        refine List.ext_getElem (by simp) fun q h2 h3 => ?_
        rw [List.getElem_map, List.getElem_set]
        by_cases hq : j = q
        · subst hq
          rw [if_pos rfl, if_pos rfl]
          show ({ m.nodes[j] with kids := keepQ _ (insAt m.nodes[j].kids i m.next) } : ANode) = _
          rw [keepQ_ins hnk]
        · rw [if_neg hq, if_neg (fun e1 => hq (ids_inj h1.1.2 hj h3 e1.symm))]
      rw [List.map_append, hm, List.filter_append, List.filter_eq_self.2 keep]
      have : ∀ y : ANode, y.id = m.next → List.filter (fun y : ANode => !decide (y.id ∈ ([] : List Int) ++ [m.next])) [y] = [] := fun y hy => by
        rw [List.filter_cons_of_neg (by rw [hy]; simp), List.filter_nil]
      rw [List.map_cons, List.map_nil, this _ (by split <;> rfl), List.append_nil]
end

/-! ### moved away and back -/
/-- where all nodes at or below x keep their kids, what is below x is the same -/
theorem below_same {m b : AModel} (h : CheckM m) (hb : CheckM b) {x : ANode} (hx : x ∈ m.nodes) (hg : ∀ y ∈ m.nodes, y.id ∈ ksL m x.id → ∃ y' ∈ b.nodes, y'.id = y.id ∧ y'.kids = y.kids) : belowL b x.id = belowL m x.id := by
  have key : ∀ z ∈ m.nodes, z.id ∈ ksL m x.id → belowL b z.id = belowL m z.id := by
    refine h.tree.induct fun z hz ih hin => ?_
    obtain ⟨z', hz', e1, e2⟩ := hg z hz hin
    have e3 := hb.tree.below_eq hz'
    rw [e1, e2] at e3
    have e5 : z.kids.map (fun k => k :: belowL b k) = z.kids.map (fun k => k :: belowL m k) := List.map_congr_left fun k hk => by
      obtain ⟨w, hw, rfl, _⟩ := h.tree.kid hz hk
      exact congrArg (List.cons w.id) (ih w hw hk (List.mem_cons_of_mem _ (ks_kids h.tree hx hz hin hk)))
    exact e3.trans ((congrArg List.flatten e5).trans (h.tree.below_eq hz).symm)
  exact key x hx (List.mem_cons_self ..)
theorem most_mem {m : AModel} : ∀ (l : List Int) (d : Nat), mostTo m d l = d ∨ ∃ k ∈ l, mostTo m d l = dN m k
  | [], d => .inl rfl
  | c :: r, d => by
    have e : mostTo m d (c :: r) = mostTo m (max d (dN m c)) r := rfl
    rw [e]
    rcases most_mem r (max d (dN m c)) with h | ⟨k, hk, h⟩
    · rw [h]
      rcases Nat.le_total d (dN m c) with h2 | h2
      · exact .inr ⟨c, List.mem_cons_self .., by rw [Nat.max_eq_right h2]⟩
      · exact .inl (by rw [Nat.max_eq_left h2])
    · exact .inr ⟨k, List.mem_cons_of_mem _ hk, h⟩
section
variable {P : Int → Bool} {K : List Int}
/-- ahead of a place among all kids stand as many of the role's as the place says -/
theorem spot_filter (hnd : K.Nodup) {q : Nat} (hq : q ≤ (K.filter P).length) : ∃ i : Nat, spotI K (K.filter P) q = some (i : Int) ∧ (K.take i).filter P = (K.filter P).take q ∧ (K.drop i).filter P = (K.filter P).drop q := by
  have split : ∀ c, c ∈ K → P c = true → ∃ i : Nat, idxI K c = i ∧ K = K.take i ++ c :: K.drop (i + 1) ∧ ∃ hi : i < K.length, K[i] = c := fun c hc _ => by
    rcases idxI_cases K c with ⟨i, hi, e, e2, _⟩ | ⟨h, _⟩
    · exact ⟨i, e2, by rw [← e, ← List.drop_eq_getElem_cons hi, List.take_append_drop], hi, e⟩
    · exact absurd hc h
  have hfn : (K.filter P).Nodup := hnd.sublist List.filter_sublist
  have place : ∀ c ∈ K, P c = true → ∀ i : Nat, K = K.take i ++ c :: K.drop (i + 1) → ∀ r (hr : r < (K.filter P).length), (K.filter P)[r] = c → ((K.take i).filter P).length = r ∧ K.filter P = (K.take i).filter P ++ c :: (K.drop (i + 1)).filter P := fun c hc hP i hK r hr e => by
    have e1 : K.filter P = (K.take i).filter P ++ c :: (K.drop (i + 1)).filter P := by
      conv => lhs; rw [hK]
      rw [List.filter_append, List.filter_cons_of_pos hP]
    refine ⟨?_, e1⟩
    have hl : ((K.take i).filter P).length < (K.filter P).length := by rw [e1]; simp
    have e2 : (K.filter P)[((K.take i).filter P).length] = c := by simp only [e1]; simp
    rcases Nat.lt_trichotomy ((K.take i).filter P).length r with h1 | h1 | h1
    · exact absurd (e2.trans e.symm) (List.pairwise_iff_getElem.1 hfn _ _ hl hr h1)
    · exact h1
    · exact absurd (e.trans e2.symm) (List.pairwise_iff_getElem.1 hfn _ _ hr hl h1)
  by_cases h1 : q < (K.filter P).length
  · obtain ⟨c, hc⟩ : ∃ c, (K.filter P)[q] = c := ⟨_, rfl⟩
    have hm : c ∈ K ∧ P c = true := by rw [← hc]; exact List.mem_filter.1 (List.getElem_mem h1)
    obtain ⟨i, e1, e2, hi, ei⟩ := split c hm.1 hm.2
    obtain ⟨e3, e4⟩ := place c hm.1 hm.2 i e2 q h1 hc
    refine ⟨i, by rw [spotI_at h1, hc, e1], ?_, ?_⟩
    · conv => rhs; rw [e4, ← e3]
      rw [List.take_left]
    · have e5 : (K.drop i).filter P = c :: (K.drop (i + 1)).filter P := by
        rw [List.drop_eq_getElem_cons hi, ei, List.filter_cons_of_pos hm.2]
      rw [e5]
      conv => rhs; rw [e4, ← e3]
      rw [List.drop_left]
  · have hq2 : q = (K.filter P).length := by omega
    subst hq2
    by_cases h0 : 0 < (K.filter P).length
    · have hl : (K.filter P).length - 1 < (K.filter P).length := by omega
      have hm := List.mem_filter.1 (List.getElem_mem hl)
      obtain ⟨i, e1, e2, hi, ei⟩ := split _ hm.1 hm.2
      obtain ⟨e3, e4⟩ := place _ hm.1 hm.2 i e2 _ hl rfl
      have e5 : (K.drop (i + 1)).filter P = [] := by
        have := congrArg List.length e4
        rw [List.length_append, List.length_cons, e3] at this
        exact List.eq_nil_of_length_eq_zero (by omega)
      refine ⟨i + 1, by rw [spotI_last h0, e1]; rfl, ?_, ?_⟩
      · rw [List.take_length, List.take_succ_eq_append_getElem hi, List.filter_append, ei, List.filter_cons_of_pos hm.2, List.filter_nil]
        conv => rhs; rw [e4, e5]
      · rw [e5, List.drop_length]
    · have h00 : (K.filter P).length = 0 := by omega
      refine ⟨K.length, ?_, ?_, ?_⟩
      · rw [h00]; exact spotI_all h00
      · rw [List.take_length, List.take_length]
      · rw [List.drop_length, List.drop_length]; rfl
end
/-- taken out, and put in at its place again -/
theorem ins_back {l : List Int} (hnd : l.Nodup) {r : Nat} (hr : r < l.length) : insAt (l.filter fun k => !(k == l[r])) r l[r] = l := by
  have e : l = l.take r ++ l[r] :: l.drop (r + 1) := by rw [← List.drop_eq_getElem_cons hr, List.take_append_drop]
  have h1 : ∀ k ∈ l.take r, (!(k == l[r])) = true := fun k hk => by
    obtain ⟨i, hi, rfl⟩ := List.getElem_of_mem hk
    rw [List.length_take] at hi
    rw [List.getElem_take]
    have := List.pairwise_iff_getElem.1 hnd i r (by omega) hr (by omega)
    simpa using this
  have h2 : ∀ k ∈ l.drop (r + 1), (!(k == l[r])) = true := fun k hk => by
    obtain ⟨i, hi, rfl⟩ := List.getElem_of_mem hk
    rw [List.length_drop] at hi
    rw [List.getElem_drop]
    have := List.pairwise_iff_getElem.1 hnd r (r + 1 + i) hr (by omega) (by omega)
    simpa using fun e => this e.symm
  have e2 : (l.filter fun k => !(k == l[r])) = l.take r ++ l.drop (r + 1) := by
    obtain ⟨c, hc⟩ : ∃ c, l[r] = c := ⟨_, rfl⟩
    rw [hc] at e h1 h2 ⊢
    conv => lhs; rw [e]
    rw [List.filter_append, List.filter_eq_self.2 h1, List.filter_cons_of_neg (by simp), List.filter_eq_self.2 h2]
  rw [e2]
  unfold insAt
  have hl : (l.take r).length = r := by rw [List.length_take]; omega
  conv => lhs; arg 1; arg 1; rw [← hl]
  conv => lhs; arg 2; arg 2; arg 1; rw [← hl]
  rw [List.take_left, List.drop_left]
  exact e.symm

section
variable {m : AModel} {x : ANode} {t at' : Int} {role : ByteArray}
/-- a node, taken out of x's parent's kids -/
def outN (x y : ANode) : ANode := if y.id = x.parent then { y with kids := keepQ (fun k => k == x.id) y.kids } else y
theorem outN_id (x y : ANode) : (outN x y).id = y.id := by unfold outN; split <;> rfl
theorem move_form (h : CheckM m) (hx : x ∈ m.nodes) (hE : moveE m x.id t role at' = 0) : ∃ q : Nat, moveL m x.id t role at' = m.nodes.map fun y => if y.id = x.id then { y with parent := t, role := role } else if y.id = t then { outN x y with kids := insAt (outN x y).kids q x.id } else outN x y := by
  obtain ⟨_, _, ⟨x2, hx2, e2, hxo⟩, _, _, _, _⟩ := moveE_zero hE
  have e3 : x2 = x := node_inj h.1.2 hx2 hx e2
  subst e3
  have hne : x2.parent ≠ x2.id := fun e => h.tree.parent_out hx (by rw [e]; exact List.mem_cons_self ..)
  refine ⟨(iOf (mu m x2) t role at').toNat, ?_⟩
  unfold moveL
  rw [hxo]
  show placeN (unhangN m.nodes x2.parent x2.id) x2.id t role _ = _
  unfold placeN unhangN
  rw [List.map_map]
  apply List.map_congr_left
  intro y _
  show (if (outN x2 y).id = x2.id then { outN x2 y with parent := t, role := role } else if (outN x2 y).id = t then { outN x2 y with kids := insAt (outN x2 y).kids _ x2.id } else outN x2 y : ANode) = _
  rw [outN_id]
  by_cases h1 : y.id = x2.id
  · rw [if_pos h1, if_pos h1]
    unfold outN
    rw [if_neg (fun e => hne (e.symm.trans h1))]
  · rw [if_neg h1, if_neg h1]
theorem out_nokid (h : CheckM m) (hx : x ∈ m.nodes) {y : ANode} (hy : y ∈ m.nodes) : x.id ∉ (outN x y).kids := by
  have := mu_nokid (x := x) h hx (outN x y) (List.mem_map.2 ⟨y, hy, rfl⟩)
  exact this
/-- the moved model, its node taken out again -/
theorem back_form (h : CheckM m) (hx : x ∈ m.nodes) (hE : moveE m x.id t role at' = 0) : ∃ x' ∈ moveL m x.id t role at', x'.id = x.id ∧ x'.parent = t ∧ nodeOf ⟨m.next, moveL m x.id t role at'⟩ x.id = x' ∧
    (mu ⟨m.next, moveL m x.id t role at'⟩ x').nodes = m.nodes.map fun y => if y.id = x.id then { y with parent := t, role := role } else outN x y := by
  have hZ := move_check hE
  obtain ⟨_, _, _, _, hne, _, _⟩ := moveE_zero hE
  obtain ⟨q, hq⟩ := move_form h hx hE
  have hm : ({ x with parent := t, role := role } : ANode) ∈ moveL m x.id t role at' := by
    rw [hq]
    exact List.mem_map.2 ⟨x, hx, by rw [if_pos rfl]⟩
  refine ⟨_, hm, rfl, rfl, hZ.tree.nodeOf (x := { x with parent := t, role := role }) hm, ?_⟩
  show unhangN (moveL m x.id t role at') t x.id = _
  rw [hq]
  unfold unhangN
  rw [List.map_map]
  apply List.map_congr_left
  intro y hy
  simp only [Function.comp]
  by_cases h1 : y.id = x.id
  · rw [if_pos h1, if_pos h1, if_neg (show ¬ y.id = t from fun e => hne (e.symm.trans h1))]
  · rw [if_neg h1, if_neg h1]
    by_cases h2 : y.id = t
    · rw [if_pos h2, if_pos (show (outN x y).id = t by rw [outN_id]; exact h2)]
      show ({ outN x y with kids := keepQ _ (insAt (outN x y).kids q x.id) } : ANode) = _
      rw [keepQ_ins (out_nokid h hx hy)]
    · rw [if_neg h2, if_neg (show ¬ (outN x y).id = t by rw [outN_id]; exact h2)]
/-- and put at its place again -/
theorem back_nodes (h : CheckM m) (hx : x ∈ m.nodes) (hE : moveE m x.id t role at' = 0) (r0 : ByteArray) (hr : r0 = x.role) (was : Int) : ∃ x', nodeOf ⟨m.next, moveL m x.id t role at'⟩ x.id = x' ∧ moveL ⟨m.next, moveL m x.id t role at'⟩ x.id x.parent r0 was = m.nodes.map fun y => if y.id = x.id then y else if y.id = x.parent then { y with kids := insAt (keepQ (fun k => k == x.id) y.kids) (iOf (mu ⟨m.next, moveL m x.id t role at'⟩ x') x.parent r0 was).toNat x.id } else y := by
  obtain ⟨x', hx', e1, e2, e3, e4⟩ := back_form h hx hE
  refine ⟨x', e3, ?_⟩
  obtain ⟨q, hq⟩ : ∃ q, (iOf (mu ⟨m.next, moveL m x.id t role at'⟩ x') x.parent r0 was).toNat = q := ⟨_, rfl⟩
  rw [hq]
  unfold moveL at e3 e4 hq ⊢
  rw [e3, hq]
  rw [e4]
  unfold placeN
  rw [List.map_map]
  apply List.map_congr_left
  intro y hy
  simp only [Function.comp]
  by_cases h1 : y.id = x.id
  · have e5 : y = x := node_inj h.1.2 hy hx h1
    subst e5
    rw [if_pos rfl, if_pos rfl, if_pos rfl, hr]
  · rw [if_neg h1, if_neg h1, if_neg (show ¬ (outN x y).id = x.id by rw [outN_id]; exact h1), outN_id]
    unfold outN
    by_cases h2 : y.id = x.parent
    · simp only [if_pos h2]
    · simp only [if_neg h2]
end

section
variable {m : AModel} {x : ANode} {t at' : Int} {role : ByteArray}
theorem at_node {m : AModel} (h : CheckM m) {k : Int} (hk : ∃ y ∈ m.nodes, y.id = k) : ¬ atI m.nodes k < 0 := by
  obtain ⟨y, hy, rfl⟩ := hk
  obtain ⟨j, hj, rfl⟩ := List.getElem_of_mem hy
  rw [atI_some h.1.srt hj rfl]; omega
/-- what Move may answer, where the nodes are there -/
theorem move_codes (h : CheckM m) (hx : x ∈ m.nodes) (ht : t = 0 ∨ ∃ y ∈ m.nodes, y.id = t) : moveE m x.id t role at' = 0 ∨ moveE m x.id t role at' = 2 ∨ moveE m x.id t role at' = 21 ∨ moveE m x.id t role at' = 22 ∨ moveE m x.id t role at' = 23 := by
  by_cases hw : t ≠ 0 → wordA role = true
  · have hn : ¬ (atI m.nodes x.id < 0 ∨ (t ≠ 0 ∧ atI m.nodes t < 0)) := by
      rintro (e | ⟨e0, e⟩)
      · exact at_node h ⟨x, hx, rfl⟩ e
      · rcases ht with h0 | h0
        · exact e0 h0
        · exact at_node h h0 e
    by_cases hl : t = x.id ∨ t ∈ belowL m x.id
    · exact .inr (.inr (.inl (moveE_loop h hw hn hl)))
    · rw [moveE_goal h hw hn hl]
      unfold goalE rootE kidE
      split
      · split
        · exact .inl rfl
        · exact .inr (.inr (.inr (.inl rfl)))
      · split
        · split
          · exact .inr (.inr (.inr (.inr rfl)))
          · exact .inl rfl
        · exact .inr (.inr (.inr (.inl rfl)))
  · have hp : t ≠ 0 := fun e => hw (fun h => absurd e h)
    have hw2 : wordA role = false := by
      cases e : wordA role with
      | false => rfl
      | true => exact absurd (fun _ => e) hw
    exact .inr (.inl (moveE_word h hp hw2))
theorem size_zero {s : ByteArray} (h : s.size = 0) : s = ⟨#[]⟩ := by
  obtain ⟨d⟩ := s
  have : d = #[] := Array.eq_empty_of_size_eq_zero h
  rw [this]
/-- each node's like in the moved model -/
theorem move_like (h : CheckM m) (hx : x ∈ m.nodes) (hE : moveE m x.id t role at' = 0) : ∀ w ∈ m.nodes, w.id ≠ x.id → ∃ y ∈ moveL m x.id t role at', y.id = w.id ∧ y.parent = w.parent := fun w hw hne => by
  obtain ⟨q, hq⟩ := move_form h hx hE
  rw [hq]
  refine ⟨_, List.mem_map.2 ⟨w, hw, rfl⟩, ?_⟩
  rw [if_neg hne]
  have e : (outN x w).parent = w.parent := by unfold outN; split <;> rfl
  by_cases h2 : w.id = t
  · rw [if_pos h2]; exact ⟨outN_id x w, e⟩
  · rw [if_neg h2]; exact ⟨outN_id x w, e⟩
/-- a root moved away and back -/
theorem back_root (h : CheckM m) (hx : x ∈ m.nodes) (hE : moveE m x.id t role at' = 0) (h0 : x.parent = 0) : moveE ⟨m.next, moveL m x.id t role at'⟩ x.id 0 ⟨#[]⟩ 0 = 0 ∧ moveL ⟨m.next, moveL m x.id t role at'⟩ x.id 0 ⟨#[]⟩ 0 = m.nodes := by
  have hZ := move_check hE
  obtain ⟨x', hx', e1, e2, e3, _⟩ := back_form h hx hE
  constructor
  · have hi := id_pos hZ.1.2 hx'
    rw [moveE_goal hZ (fun e => absurd rfl e) (by
      rintro (e | ⟨e0, _⟩)
      · exact at_node hZ ⟨x', hx', e1⟩ e
      · exact e0 rfl) (by
      rintro (e | e)
      · omega
      · have e9 : (0 : Int) ∈ belowL ⟨m.next, moveL m x.id t role at'⟩ x'.id := by rw [e1]; exact e
        obtain ⟨y, hy, e4⟩ := hZ.tree.below_node x' hx' 0 e9
        have := id_pos hZ.1.2 hy
        omega), goalE_root]
    decide
  · have hr : (⟨#[]⟩ : ByteArray) = x.role := (size_zero ((h.2.1 x hx).2.1.1 h0)).symm
    obtain ⟨_, _, hb⟩ := back_nodes h hx hE ⟨#[]⟩ hr 0
    rw [h0] at hb
    rw [hb]
    conv => rhs; rw [← List.map_id m.nodes]
    apply List.map_congr_left
    intro y hy
    by_cases h1 : y.id = x.id
    · rw [if_pos h1]; rfl
    · rw [if_neg h1, if_neg (show ¬ y.id = 0 by have := id_pos h.1.2 hy; omega)]; rfl
theorem back_below (h : CheckM m) (hx : x ∈ m.nodes) (hE : moveE m x.id t role at' = 0) : belowL ⟨m.next, moveL m x.id t role at'⟩ x.id = belowL m x.id := by
  have hZ := move_check hE
  obtain ⟨_, _, _, _, htx, htb, _⟩ := moveE_zero hE
  have hpo : x.parent ∉ ksL m x.id := h.tree.parent_out hx
  have hgk : ∀ y ∈ m.nodes, y.id ∈ ksL m x.id → ∃ y' ∈ moveL m x.id t role at', y'.id = y.id ∧ y'.kids = y.kids := fun y hy hin => by
    obtain ⟨q, hq⟩ := move_form h hx hE
    rw [hq]
    refine ⟨_, List.mem_map.2 ⟨y, hy, rfl⟩, ?_⟩
    by_cases h1 : y.id = x.id
    · rw [if_pos h1]; exact ⟨rfl, rfl⟩
    · have h2 : y.id ≠ t := fun e => by
        rcases List.mem_cons.1 hin with e9 | e9
        · exact h1 e9
        · exact htb (e ▸ e9)
      have h3 : y.id ≠ x.parent := fun e => hpo (e ▸ hin)
      rw [if_neg h1, if_neg h2]
      unfold outN
      rw [if_neg h3]
      exact ⟨rfl, rfl⟩
  exact below_same (b := ⟨m.next, moveL m x.id t role at'⟩) h hZ hx hgk
theorem back_height (h : CheckM m) (hx : x ∈ m.nodes) (hE : moveE m x.id t role at' = 0) {d0 : Nat} (hp : x.parent ≠ 0) (hd0 : Dep m d0 x.parent) : dN ⟨m.next, moveL m x.id t role at'⟩ x.parent = d0 ∧ d0 + heightN ⟨m.next, moveL m x.id t role at'⟩ x.id ≤ 64 := by
  have hZ := move_check hE
  obtain ⟨x', hx', e1, e2, e3, _⟩ := back_form h hx hE
  obtain ⟨_, _, _, _, htx, htb, _⟩ := moveE_zero hE
  have hlike := move_like h hx hE
  have hpo : x.parent ∉ ksL m x.id := h.tree.parent_out hx
  have hdz : Dep ⟨m.next, moveL m x.id t role at'⟩ d0 x.parent := dep_aside (S := InT m x) (fun w hw hn => hlike w hw (fun e => hn (by rw [e]; exact List.mem_cons_self ..))) (fun w hw => inT_kid h hx hw) hd0 hpo
  have hdx : Dep m (d0 + 1) x.id := .kid d0 x hx hp hd0
  obtain ⟨dn, _, hdn⟩ := hZ.tree.dep x' hx'
  rw [e1] at hdn
  have hbl := back_below h hx hE
  have hmv := dep_moved h hx hdx hdn hlike
  have h64 : ∀ k d, Dep m d k → d ≤ 64 := fun k d hd => by
    obtain ⟨y, hy, e⟩ := hd.node
    obtain ⟨d2, h2, hd2⟩ := h.tree.dep y hy
    rw [e] at hd2
    rw [hd.uniq h.1.2 hd2]; exact h2
  refine ⟨dN_yes hZ hdz, ?_⟩
  unfold heightN
  rw [dN_yes hZ hdn, hbl]
  rcases most_mem (m := ⟨m.next, moveL m x.id t role at'⟩) (belowL m x.id) dn with e | ⟨k, hk, e⟩
  · have := h64 _ _ hdx
    omega
  · obtain ⟨f, g1, g2⟩ := hmv k (List.mem_cons_of_mem _ hk)
    rw [dN_yes hZ g2] at e
    have := h64 _ _ g1
    omega
end

section
variable {m : AModel} {x : ANode} {t at' : Int} {role : ByteArray}
/-- a kid moved away and back: it stands where it stood -/
theorem back_kid (h : CheckM m) (hx : x ∈ m.nodes) (hE : moveE m x.id t role at' = 0) (hp : x.parent ≠ 0) {y0 : ANode} (hy0 : y0 ∈ m.nodes) (hy0i : y0.id = x.parent) {r : Nat} (hr : r < (inL m y0 x.role).length) (hrx : (inL m y0 x.role)[r] = x.id) :
    moveE ⟨m.next, moveL m x.id t role at'⟩ x.id x.parent x.role r = 0 ∧
    ∃ i : Nat, moveL ⟨m.next, moveL m x.id t role at'⟩ x.id x.parent x.role r = m.nodes.map (fun y => if y.id = x.id then y else if y.id = x.parent then { y with kids := insAt (keepQ (fun k => k == x.id) y.kids) i x.id } else y) ∧
    (insAt (keepQ (fun k => k == x.id) y0.kids) i x.id).filter (roleB m x.role) = inL m y0 x.role ∧ ∀ k ∈ insAt (keepQ (fun k => k == x.id) y0.kids) i x.id, k ∈ y0.kids := by
  have hZ := move_check hE
  obtain ⟨x', hx', e1, e2, e3, e4⟩ := back_form h hx hE
  have hFz : Fam (mu ⟨m.next, moveL m x.id t role at'⟩ x') := mu_fam hZ
  have hyx : y0.id ≠ x.id := fun e => h.tree.parent_out hx (by rw [← hy0i, e]; exact List.mem_cons_self ..)
  obtain ⟨K1, hK1⟩ : ∃ K, keepQ (fun k => k == x.id) y0.kids = K := ⟨_, rfl⟩
  have hok : outN x y0 = { y0 with kids := K1 } := by unfold outN; rw [if_pos hy0i, hK1]
  have himg : ∀ w ∈ m.nodes, w.id ≠ x.id → outN x w ∈ (mu ⟨m.next, moveL m x.id t role at'⟩ x').nodes := fun w hw hne => by
    rw [e4]
    exact List.mem_map.2 ⟨w, hw, by rw [if_neg hne]⟩
  have hy1 : ({ y0 with kids := K1 } : ANode) ∈ (mu ⟨m.next, moveL m x.id t role at'⟩ x').nodes := by rw [← hok]; exact himg y0 hy0 hyx
  have hKk : ∀ k ∈ K1, k ∈ y0.kids ∧ k ≠ x.id := fun k hk => by
    rw [← hK1] at hk
    have := List.mem_filter.1 hk
    exact ⟨this.1, by simpa using this.2⟩
  have hrole : ∀ k ∈ K1, roleB (mu ⟨m.next, moveL m x.id t role at'⟩ x') x.role k = roleB m x.role k := fun k hk => by
    obtain ⟨h1, h2⟩ := hKk k hk
    obtain ⟨w, hw, rfl, _⟩ := h.tree.kid hy0 h1
    unfold roleB
    have e5 := hFz.1 _ (himg w hw h2)
    rw [outN_id] at e5
    rw [e5, h.tree.nodeOf hw]
    unfold outN
    split <;> rfl
  have hnd0 := h.tree.kids_nodup hy0
  have hnd1 : K1.Nodup := by rw [← hK1]; exact hnd0.sublist List.filter_sublist
  have hndl : (inL m y0 x.role).Nodup := hnd0.sublist List.filter_sublist
  have hl1 : K1.filter (roleB m x.role) = (inL m y0 x.role).filter fun k => !(k == (inL m y0 x.role)[r]) := by
    rw [hrx, ← hK1]
    unfold inL keepQ
    rw [List.filter_filter, List.filter_filter]
    apply List.filter_congr
    intro k _
    exact Bool.and_comm _ _
  have hins := ins_back hndl hr
  rw [← hl1, hrx] at hins
  have hlen : (K1.filter (roleB m x.role)).length + 1 = (inL m y0 x.role).length := by rw [← insAt_length, hins]
  obtain ⟨i, s1, s2, s3⟩ := spot_filter (P := roleB m x.role) hnd1 (q := r) (by omega)
  obtain ⟨d0, _, hd0⟩ := h.tree.dep y0 hy0
  rw [hy0i] at hd0
  obtain ⟨hdz, h64⟩ := back_height h hx hE hp hd0
  have hinl : inL (mu ⟨m.next, moveL m x.id t role at'⟩ x') { y0 with kids := K1 } x.role = K1.filter (roleB m x.role) := List.filter_congr hrole
  have hno : nodeOf (mu ⟨m.next, moveL m x.id t role at'⟩ x') x.parent = { y0 with kids := K1 } := by rw [← hy0i]; exact hFz.1 _ hy1
  have hw := (h.2.1 x hx).2.2.1 (fun e => hp ((h.2.1 x hx).2.1.2 e))
  have hpar : ∃ y ∈ moveL m x.id t role at', y.id = x.parent := by
    obtain ⟨y, hy, e5, _⟩ := move_like h hx hE y0 hy0 hyx
    exact ⟨y, hy, e5.trans hy0i⟩
  have hnot : ¬ (x.parent = x.id ∨ x.parent ∈ belowL ⟨m.next, moveL m x.id t role at'⟩ x.id) := by
    rintro (e | e)
    · exact hyx (hy0i.trans e)
    · rw [back_below h hx hE] at e
      exact h.tree.parent_out hx (List.mem_cons_of_mem _ e)
  refine ⟨?_, i, ?_, ?_, ?_⟩
  · rw [moveE_goal hZ (fun _ => hw) (by
      rintro (e | ⟨_, e⟩)
      · exact at_node hZ ⟨x', hx', e1⟩ e
      · exact at_node hZ hpar e) hnot, e3]
    unfold goalE
    rw [if_neg hp, hno, hinl]
    show kidE (spotI K1 (K1.filter (roleB m x.role)) r) _ _ = 0
    rw [s1, hdz]
    unfold kidE
    rw [if_pos (show (some (i : Int)).isSome = true from rfl), if_neg (by omega)]
  · obtain ⟨x2, e5, hb⟩ := back_nodes h hx hE x.role rfl r
    have e6 : x2 = x' := e5.symm.trans e3
    subst e6
    have hi : (iOf (mu ⟨m.next, moveL m x.id t role at'⟩ x2) x.parent x.role r).toNat = i := by
      unfold iOf
      rw [hno, hinl]
      show ((spotI K1 (K1.filter (roleB m x.role)) r).getD 0).toNat = i
      rw [s1]; rfl
    rw [hb, hi]
  · rw [hK1]
    unfold insAt
    have hP : roleB m x.role x.id = true := by
      unfold roleB
      rw [h.tree.nodeOf hx]; exact beq_self_eq_true _
    rw [List.filter_append, List.filter_cons_of_pos hP, s2, s3]
    exact hins
  · rw [hK1]
    intro k hk
    rcases insAt_mem hk with e | e
    · rw [e]
      have := List.mem_filter.1 (List.getElem_mem hr)
      rw [hrx] at this
      exact this.1
    · exact (hKk k e).1
end

section
variable {m : AModel} {x : ANode}
/-- a model whose nodes are m's but for the kids of one -/
def backB (x : ANode) (i : Nat) (y : ANode) : ANode := if y.id = x.id then y else if y.id = x.parent then { y with kids := insAt (keepQ (fun k => k == x.id) y.kids) i x.id } else y
theorem backB_same (x : ANode) (i : Nat) (y : ANode) : (backB x i y).id = y.id ∧ (backB x i y).concept = y.concept ∧ (backB x i y).role = y.role ∧ (backB x i y).parent = y.parent := by
  unfold backB
  split
  · exact ⟨rfl, rfl, rfl, rfl⟩
  · split <;> exact ⟨rfl, rfl, rfl, rfl⟩
theorem back_kids (h : CheckM m) {i : Nat} (hB : CheckM ⟨m.next, m.nodes.map (backB x i)⟩) {y0 : ANode} (hy0 : y0 ∈ m.nodes) (hy0i : y0.id = x.parent) (hne : y0.id ≠ x.id) {l : List Int} (hl : (insAt (keepQ (fun k => k == x.id) y0.kids) i x.id).filter (roleB m x.role) = l) (hk : ∀ k ∈ insAt (keepQ (fun k => k == x.id) y0.kids) i x.id, k ∈ y0.kids) :
    kidR ⟨m.next, m.nodes.map (backB x i)⟩ x.role x.parent = l := by
  have hb : backB x i y0 = { y0 with kids := insAt (keepQ (fun k => k == x.id) y0.kids) i x.id } := by unfold backB; rw [if_neg hne, if_pos hy0i]
  have hm : ({ y0 with kids := insAt (keepQ (fun k => k == x.id) y0.kids) i x.id } : ANode) ∈ m.nodes.map (backB x i) := List.mem_map.2 ⟨y0, hy0, hb⟩
  have h1 := kidR_yes (role := x.role) hB hm
  have h2 : kidR ⟨m.next, m.nodes.map (backB x i)⟩ x.role x.parent = inL ⟨m.next, m.nodes.map (backB x i)⟩ { y0 with kids := insAt (keepQ (fun k => k == x.id) y0.kids) i x.id } x.role := by rw [← hy0i]; exact h1
  rw [h2, ← hl]
  refine List.filter_congr fun k hkk => ?_
  obtain ⟨w, hw, rfl, _⟩ := h.tree.kid hy0 (hk k hkk)
  have e := hB.tree.nodeOf (x := backB x i w) (List.mem_map.2 ⟨w, hw, rfl⟩)
  rw [(backB_same x i w).1] at e
  unfold roleB
  rw [e, h.tree.nodeOf hw, (backB_same x i w).2.2.1]
end
end Go.Proofs.Ytmafhaadcjgcbaa
end
section
/- a model told but for the order of its kids: topiarylaw02.sorted -/
namespace Go.Proofs.Ytmafhaadcjgcbaa
open Go Go.RowKit

theorem byte_info2 : (Try.prog.info? 5).map (fun i => (i.zero, i.size, i.bytes)) = some (some (.int .u8 0), 1, 1) := by kernel_rfl
def digs (k : Nat) : List UInt8 := if h : k = 0 then [] else UInt8.ofNat (48 + k % 10) :: digs (k / 10)
termination_by k
decreasing_by omega
def headL (y : ANode) : List UInt8 := (((y.concept ++ ⟨#[32]⟩) ++ y.role) ++ ⟨#[32]⟩ : ByteArray).data.toList
def lineL (y : ANode) : List UInt8 := headL y ++ digs y.parent.toNat ++ [10]
def sortL (l : List ANode) : List UInt8 := l.flatMap lineL
def u8s (l : List UInt8) : List Value := l.map fun b => Value.int .u8 b.toNat
theorem digs_zero : digs 0 = [] := by rw [digs]; rfl
theorem digs_succ {k : Nat} (h : 0 < k) : digs k = UInt8.ofNat (48 + k % 10) :: digs (k / 10) := by
  rw [digs, dif_neg (by omega)]
theorem digs_len : ∀ (n k : Nat), k < 10 ^ n → (digs k).length ≤ n
  | 0, k, h => by
    have : k = 0 := by simpa using h
    subst this; rw [digs_zero]; exact Nat.le_refl _
  | n + 1, k, h => by
    rcases Nat.eq_zero_or_pos k with h0 | h0
    · subst h0; rw [digs_zero]; exact Nat.zero_le _
    · rw [digs_succ h0, List.length_cons]
      have := digs_len n (k / 10) (by rw [Nat.pow_succ] at h; omega)
      omega
theorem buf_below {B : Nat} {e : TypeId} {v : Value} {n : Nat} {xs : List Value} {W0 w w' : World} (h : Lib.OwnBuf B e v n xs W0 w) (hb : Below w.heap.size w w') : Lib.OwnBuf B e v n xs W0 w' :=
  ⟨h.1.kept (row := none) ⟨hb.os, hb.tape, hb.output, hb.size, fun k hk _ => hb.block k hk⟩ (by cases hv : v.ownBlock <;> simp), h.2.1.trans (hb.mono h.2.2), Nat.le_trans h.2.2 hb.size⟩
/-- the same nodes, but for their lists: the same text -/
theorem sortL_same {l : List ANode} {f : ANode → ANode} (h : ∀ y ∈ l, (f y).concept = y.concept ∧ (f y).role = y.role ∧ (f y).parent = y.parent) : sortL (l.map f) = sortL l := by
  unfold sortL
  rw [List.flatMap_map, List.flatMap_def, List.flatMap_def]
  congr 1
  apply List.map_congr_left
  intro y hy
  obtain ⟨e1, e2, e3⟩ := h y hy
  unfold lineL headL
  rw [e1, e2, e3]
theorem headL_len (y : ANode) : (headL y).length = (((y.concept ++ ⟨#[32]⟩) ++ y.role) ++ ⟨#[32]⟩ : ByteArray).size := rfl
theorem line_size {m : AModel} (hc : CheckM m) {y : ANode} (hy : y ∈ m.nodes) : (lineL y).length ≤ 100 ∧ 0 ≤ y.parent ∧ y.parent ≤ 1048577 ∧ (((y.concept ++ ⟨#[32]⟩) ++ y.role) ++ ⟨#[32]⟩ : ByteArray).size ≤ 80 ∧ (digs y.parent.toNat).length ≤ 7 := by
  obtain ⟨a1, a2, a3, _⟩ := hc.2.1 y hy
  have h1 := wordA_size a1
  have h2 : y.role.size ≤ 33 := by
    by_cases h0 : y.role.size = 0
    · omega
    · exact wordA_size (a3 h0)
  have hp : 0 ≤ y.parent ∧ y.parent ≤ 1048577 := by
    rcases check_parent hc hy with e | ⟨z, hz, e⟩
    · omega
    · obtain ⟨j, hj, rfl⟩ := List.getElem_of_mem hz
      have h3 := hc.1.2 j hj
      have h4 := hc.1.1.2.1
      omega
  have hd := digs_len 7 y.parent.toNat (by omega)
  have hs : (((y.concept ++ ⟨#[32]⟩) ++ y.role) ++ ⟨#[32]⟩ : ByteArray).size ≤ 80 := by
    simp only [ByteArray.size_append]
    have : (⟨#[32]⟩ : ByteArray).size = 1 := rfl
    omega
  refine ⟨?_, hp.1, hp.2, hs, hd⟩
  unfold lineL
  rw [List.length_append, List.length_append, headL_len]
  simp only [List.length_singleton]
  omega
theorem sortL_len {l : List ANode} (h : ∀ y ∈ l, (lineL y).length ≤ 100) : ∀ i, (sortL (l.take i)).length ≤ i * 100 := by
  have key : ∀ l : List ANode, (∀ y ∈ l, (lineL y).length ≤ 100) → (sortL l).length ≤ l.length * 100 := fun l => by
    induction l with
    | nil => intro _; exact Nat.le_refl _
    | cons z r ih =>
      intro h
      have e : sortL (z :: r) = lineL z ++ sortL r := rfl
      rw [e, List.length_append, List.length_cons]
      have h1 := h z (List.mem_cons_self ..)
      have h2 := ih (fun y hy => h y (List.mem_cons_of_mem _ hy))
      omega
  intro i
  have h1 := key (l.take i) (fun y hy => h y (List.mem_of_mem_take hy))
  have h2 := List.length_take_le i l
  have := Nat.mul_le_mul_right 100 h2
  omega
theorem u8s_app (a b : List UInt8) : u8s (a ++ b) = u8s a ++ u8s b := List.map_append
theorem sort_next {l : List ANode} {i : Nat} (hi : i < l.length) {y : ANode} (hy : l[i] = y) : sortL (l.take (i + 1)) = sortL (l.take i) ++ headL y ++ digs y.parent.toNat ++ [10] := by
  have e : l.take (i + 1) = l.take i ++ [y] := by rw [List.take_succ_eq_append_getElem hi, hy]
  rw [e]
  unfold sortL
  rw [List.flatMap_append, List.flatMap_singleton]
  unfold lineL
  rw [← List.append_assoc, ← List.append_assoc]
/-- a text out of its bytes -/
theorem buf_string {B : Nat} {v : Value} {l : List UInt8} {W0 w : World} (h : Lib.OwnBuf B 5 v l.length (u8s l) W0 w) : Sem.run Try.prog (convert 88 9 v) w = .ok (.string ⟨l.toArray⟩) w := by
  rcases h.1.2 with ⟨rfl, h0⟩ | ⟨g, cap, cur, fz, rfl, _, _, _, _, _, _, _⟩
  · have : l = [] := List.eq_nil_of_length_eq_zero h0
    subst this
    exact run_convert_bytes_nil w 88 5 Try.underlying88 Try.underlying5 0 0 9 Try.underlying9
  · refine run_convert_bytes_back w _ _ 5 ⟨g, 0, none⟩ cap l Try.underlying88 Try.underlying5 Try.underlying9 fun j hj => ?_
    exact h.1.cells rfl j _ (by unfold u8s; rw [List.getElem?_map, List.getElem?_eq_getElem hj]; rfl)
end Go.Proofs.Ytmafhaadcjgcbaa
end
section
/- topiarylaw02.sorted -/
namespace Go.Proofs.Ytmafhaadcjgcbaa
open Go Go.RowKit

set_option maxRecDepth 100000 in
set_option maxHeartbeats 4000000 in
theorem sorted_any (A : Option Addr) (c : Nat) (m : AModel) (w : World) (F : Nat → Prop) (hF : ∀ b, F b → b < w.heap.size) (h : RowOf 7 ENode w F A m.nodes) (hc : CheckM m) :
    Calls Try.prog 59 #[.agg #[.int .i64 m.next, .slice A m.nodes.length c]] w fun e w' => e = .returned (.string ⟨(sortL m.nodes).toArray⟩) ∧ Below w.heap.size w w' := by
  have hl4 := hc.1.1.2.2
  obtain ⟨i0, hinf, hz0, hz1, hz2⟩ := info_parts byte_info2
  have HI0 := Lib.hid (And.intro hinf (And.intro hz0 (And.intro hz1 hz2)))
  clear hinf hz0 hz1 hz2
  have HSIZE : Hid (∀ y ∈ m.nodes, (lineL y).length ≤ 100 ∧ 0 ≤ y.parent ∧ y.parent ≤ 1048577 ∧ (((y.concept ++ ⟨#[32]⟩) ++ y.role) ++ ⟨#[32]⟩ : ByteArray).size ≤ 80 ∧ (digs y.parent.toNat).length ≤ 7) := Lib.hid (fun y hy => line_size hc hy)
  have HLEN : Hid (∀ i, (sortL (m.nodes.take i)).length ≤ i * 100) := Lib.hid (fun i => sortL_len (fun y hy => (HSIZE.out y hy).1) i)
  obtain ⟨TX, hTX⟩ : ∃ t : ByteArray, ⟨(sortL m.nodes).toArray⟩ = t := ⟨_, rfl⟩
  have HTX := Lib.hid hTX
  rw [hTX]
  obtain ⟨n, hn⟩ : ∃ n, m.nodes.length = n := ⟨_, rfl⟩
  have HN := Lib.hid hn
  rw [hn] at hl4 ⊢
  obtain ⟨u0, hu0⟩ : ∃ u : World, w.alloc (.cells #[.int .i64 m.next, .slice A n c] 24) = u := ⟨_, rfl⟩
  have HWB : Hid (Below w.heap.size w u0) := Lib.hid (by rw [← hu0]; exact (Below.refl _ _).alloc (Nat.le_refl _) _)
  have HM0 : Hid (Blk u0 w.heap.size 24 #[.int .i64 m.next, .slice A n c]) := Lib.hid (by rw [← hu0]; exact Blk.new _ _ _)
  have HRW : Hid (∀ V, Below u0.heap.size u0 V → RowOf 7 ENode V F A m.nodes) := Lib.hid (fun V hb => h.keep ENode.stays (Keep.below (HWB.out.trans (hb.mono HWB.out.size)) hF) (fun _ h => h))
  have HM1 : Hid (∀ V, Below u0.heap.size u0 V → V.cell? ⟨w.heap.size, 1, none⟩ = some (.slice A n c)) := Lib.hid (fun V hb => by
    have a := (HM0.out.below hb HM0.out.lt).cell 1
    simp at a
    exact a)
  have HU0 := Lib.hid hu0
  clear hu0 hTX hn hc h
  go_enter Try.func59, Try.ntmps59
  go_upto_region 3 with fail
  (try rw [HU0.out])
  go_loopg [3, 4] n (fun g s3 s4 wx => ∃ (i : Nat) (v : Value), s3 = v ∧ s4 = .int .i64 i ∧ g = n - i ∧ i ≤ n ∧ Lib.OwnBuf u0.heap.size 5 v (sortL (m.nodes.take i)).length (u8s (sortL (m.nodes.take i))) u0 wx)
  case atStart => exact ⟨0, _, rfl, rfl, rfl, Nat.zero_le _, World.ownsRowF_nil _ _ _ _, Below.refl _ _, Nat.le_refl _⟩
  case round =>
    obtain ⟨i, v, rfl, rfl, rfl, hin, hbuf⟩ := hrel
    have HB := Lib.hid hbuf
    clear hbuf
    have hi0 : (0 : Int) ≤ i := by omega
    by_cases hi : i < n
    rotate_left 1
    · have hi' : ¬ (i : Int) < n := by omega
      obtain rfl : i = n := by omega
      have m1 := HM1.out _ HB.out.2.1
      have hlt := HM0.out.lt
      have hcv := buf_string HB.out
      rw [show m.nodes.take i = m.nodes by rw [← HN.out]; exact List.take_length, HTX.out] at hcv
      go_wp2
      go_ret
      exact ⟨by simp, HWB.out.trans (HB.out.2.1.mono HWB.out.size)⟩
    · have hi' : (i : Int) < n := by omega
      have him : i < m.nodes.length := by rw [HN.out]; exact hi
      have hbr := HB.out.2.1
      obtain ⟨b, off, Sp, cp, Sk, ck, Sr, cr, hA, hbF, d0, d1, d2, d3, _, _, _, _⟩ := node_at (HRW.out _ HB.out.2.1) him
      subst hA
      have m1 := HM1.out _ HB.out.2.1
      have hlt := HM0.out.lt
      obtain ⟨y, hy⟩ : ∃ y, m.nodes[i] = y := ⟨_, rfl⟩
      have hym : y ∈ m.nodes := by rw [← hy]; exact List.getElem_mem him
      have HY := Lib.hid hy
      have HSZ := Lib.hid (HSIZE.out y hym)
      have hLi := HLEN.out i
      rw [hy] at d1 d3
      clear d0 d2 hy hbr
      go_upto_region 5 with fail
      have k1 := cell_regrown d1
      have k3 := cell_regrown d3
      have km := cell_regrown m1
      have hsz3 := HSZ.out.2.2.2.1
      simp only [ByteArray.size_append] at hsz3
      rw [show (⟨#[32]⟩ : ByteArray).size = 1 from rfl] at hsz3
      have n1 : ¬ 9223372036854775807 < y.concept.size + 1 := by omega
      have n2 : ¬ 9223372036854775807 < y.concept.size + 1 + y.role.size := by omega
      have n3 : ¬ 9223372036854775807 < y.concept.size + 1 + y.role.size + 1 := by omega
      refine wp_region_quiet_below_tail 16 (by kernel_rfl) (by kernel_rfl) ?_
      simp only [List.take_succ_cons, List.take_zero, List.drop_succ_cons, List.drop_zero]
      repeat (first | go_big_quiet_step (fail) | quiet_step (fail))
      refine wpQuiet_nil ?_
      intro _ hw'
      obtain ⟨⟨dq, osq⟩, hw''⟩ := hw'
      subst hw''
      have HB2 := Lib.hid (buf_below HB.out (below_regrown _ dq osq))
      clear k1 k3 km d1 d3 m1 HB
      have hT := HSZ.out.2.2.2.1
      go_upto_region 6 with (at_builtin; refine Lib.wpList_append_text rfl _ _ 88 9 rfl u0.heap.size 5 i0 Try.underlying88 Try.underlying9 HI0.out.1 HI0.out.2.1 HI0.out.2.2.1 HI0.out.2.2.2 _ _ _ rfl u0 HB2.out _ rfl (by omega) ?_; intro v1 w1 hb1)
      have HB3 : Hid (Lib.OwnBuf u0.heap.size 5 v1 ((sortL (m.nodes.take i) ++ headL y).length) (u8s (sortL (m.nodes.take i) ++ headL y)) u0 w1) := Lib.hid (by
        rw [u8s_app, List.length_append, headL_len]
        exact hb1)
      clear hb1 HB2
      obtain ⟨L0, hL0⟩ : ∃ z, sortL (m.nodes.take i) ++ headL y = z := ⟨_, rfl⟩
      have hl0 : L0.length ≤ 500000 := by
        rw [← hL0, List.length_append, headL_len]
        omega
      rw [hL0] at HB3
      have HL0 := Lib.hid hL0
      clear hL0 hT hLi n1 n2 n3 hsz3
      obtain ⟨b', off', Sp', cp', Sk', ck', Sr', cr', e', hbF', d0, d1, d2, d3, _, _, _, _⟩ := node_at (HRW.out _ HB3.out.2.1) him
      injection e' with e'
      injection e' with e1 e3
      subst e1; subst e3
      rw [HY.out] at d2
      obtain ⟨p, hp⟩ : ∃ p : Nat, y.parent = p := ⟨y.parent.toNat, (Int.toNat_of_nonneg HSZ.out.2.1).symm⟩
      have hpt : y.parent.toNat = p := by omega
      have hpl := HSZ.out.2.2.2.2
      have hpm := HSZ.out.2.2.1
      rw [hpt] at hpl
      rw [hp] at d2 hpm
      have HPT := Lib.hid hpt
      clear d0 d1 d3 hp hpt
      have m1 := HM1.out _ HB3.out.2.1
      go_upto_region 7 with fail
      clear m1 d2
      go_loopg [3, 5] p (fun g s3 s5 wx => ∃ (k : Nat) (v : Value) (L : List UInt8), s3 = v ∧ s5 = .int .i64 k ∧ k = g ∧ k ≤ p ∧ L ++ digs k = L0 ++ digs p ∧ Lib.OwnBuf u0.heap.size 5 v L.length (u8s L) u0 wx)
      case atStart => exact ⟨p, _, L0, rfl, rfl, rfl, Nat.le_refl _, rfl, HB3.out⟩
      case round =>
        clear HB3
        obtain ⟨k, v, L, rfl, rfl, rfl, hkp, hL, hb⟩ := hrel
        have HB4 := Lib.hid hb
        clear hb
        have hLl : L.length ≤ 500007 := by
          have := congrArg List.length hL
          rw [List.length_append, List.length_append] at this
          omega
        have hk0 : (0 : Int) ≤ k := by omega
        have HL := Lib.hid hL
        clear hL
        by_cases hk : 0 < k
        rotate_left 1
        · have hk' : ¬ (0 : Int) < k := by omega
          obtain rfl : k = 0 := by omega
          go_wp2_with (at_builtin; refine Lib.wpList_append_byte rfl _ _ 88 rfl u0.heap.size 5 i0 Try.underlying88 HI0.out.1 HI0.out.2.1 HI0.out.2.2.1 HI0.out.2.2.2 _ _ _ rfl u0 _ _ (by exact HB4.out) rfl (by omega) ?_; intro v3 w3 hb3)
          go_roundg (n - (i + 1))
          case measure => omega
          case rel =>
            refine ⟨i + 1, _, rfl, by go_num, rfl, by omega, ?_⟩
            have e : sortL (m.nodes.take (i + 1)) = L ++ [10] := by
              have h0 := HL.out
              rw [digs_zero, List.append_nil] at h0
              rw [sort_next him HY.out, HL0.out, HPT.out, ← h0]
            rw [e, u8s_app, List.length_append]
            exact hb3
        · have hk' : (0 : Int) < k := by omega
          go_wp2_with (at_builtin; refine Lib.wpList_append_byte rfl _ _ 88 rfl u0.heap.size 5 i0 Try.underlying88 HI0.out.1 HI0.out.2.1 HI0.out.2.2.1 HI0.out.2.2.2 _ _ _ rfl u0 _ _ (by exact HB4.out) rfl (by omega) ?_; intro v3 w3 hb3)
          go_roundg (k / 10)
          case measure => omega
          case rel =>
            refine ⟨k / 10, _, L ++ [UInt8.ofNat (48 + k % 10)], rfl, ?_, rfl, by omega, ?_, ?_⟩
            · rw [show ((k / 10 : Nat) : Int) = (k : Int) / 10 by omega]
            · rw [List.append_assoc, ← HL.out, digs_succ hk]; rfl
            · rw [u8s_app, List.length_append]
              have e : u8s [UInt8.ofNat (48 + k % 10)] = [Value.int .u8 (48 + (k : Int) % 10)] := by
                have e1 : (UInt8.ofNat (48 + k % 10)).toNat = 48 + k % 10 := by
                  rw [UInt8.toNat_ofNat']
                  exact Nat.mod_eq_of_lt (by omega)
                show [Value.int .u8 ((UInt8.ofNat (48 + k % 10)).toNat : Int)] = _
                rw [e1]
                congr 2
              rw [e]
              exact hb3
end Go.Proofs.Ytmafhaadcjgcbaa
end
section
/- moved and moved back: what ArenaBack looks at -/
namespace Go.Proofs.Ytmafhaadcjgcbaa
open Go Go.RowKit

section
variable {m : AModel} {x : ANode} {t at' : Int} {role : ByteArray}
/-- a node with a parent stands among the kids of its role -/
theorem kid_there (h : CheckM m) (hx : x ∈ m.nodes) (hp : x.parent ≠ 0) : x.id ∈ kidR m x.role x.parent := by
  obtain ⟨y0, hy0, hy0i, hk⟩ := hung h hx hp
  rw [← hy0i, kidR_yes h hy0]
  refine List.mem_filter.2 ⟨hk, ?_⟩
  unfold roleB
  rw [h.tree.nodeOf hx]
  simp
theorem back_all (h : CheckM m) (hx : x ∈ m.nodes) (hE : moveE m x.id t role at' = 0) (hp : x.parent ≠ 0) {r : Nat} (hr : r < (kidR m x.role x.parent).length) (hrx : (kidR m x.role x.parent)[r] = x.id) :
    moveE ⟨m.next, moveL m x.id t role at'⟩ x.id x.parent x.role r = 0 ∧ CheckM ⟨m.next, moveL ⟨m.next, moveL m x.id t role at'⟩ x.id x.parent x.role r⟩ ∧
    kidR ⟨m.next, moveL ⟨m.next, moveL m x.id t role at'⟩ x.id x.parent x.role r⟩ x.role x.parent = kidR m x.role x.parent ∧ sortL (moveL ⟨m.next, moveL m x.id t role at'⟩ x.id x.parent x.role r) = sortL m.nodes := by
  obtain ⟨y0, hy0, hy0i, hk0⟩ := hung h hx hp
  have hyx : y0.id ≠ x.id := fun e => h.tree.parent_out hx (by rw [← hy0i, e]; exact List.mem_cons_self ..)
  have hkr : kidR m x.role x.parent = inL m y0 x.role := by rw [← hy0i]; exact kidR_yes h hy0
  obtain ⟨K, hK⟩ : ∃ K, kidR m x.role x.parent = K := ⟨_, rfl⟩
  rw [hK] at hkr
  have hr2 : r < (inL m y0 x.role).length := by rw [← hkr, ← hK]; exact hr
  have hrx2 : (inL m y0 x.role)[r] = x.id := by
    have e : (kidR m x.role x.parent)[r] = (inL m y0 x.role)[r] := by congr 1; rw [hK, hkr]
    rw [← e]; exact hrx
  obtain ⟨b1, i, b2, b3, b4⟩ := back_kid h hx hE hp hy0 hy0i hr2 hrx2
  have hc := move_check b1
  have b5 : moveL ⟨m.next, moveL m x.id t role at'⟩ x.id x.parent x.role r = m.nodes.map (backB x i) := b2
  refine ⟨b1, hc, ?_, ?_⟩
  · rw [hK, b5]
    have hB : CheckM ⟨m.next, m.nodes.map (backB x i)⟩ := by rw [← b5]; exact hc
    exact back_kids h hB hy0 hy0i hyx (b3.trans hkr.symm) b4
  · rw [b5]
    exact sortL_same fun y _ => ⟨(backB_same x i y).2.1, (backB_same x i y).2.2.1, (backB_same x i y).2.2.2⟩
/-- where a value stands in a list, at the first: what a loop finds -/
def firstI (l : List Int) (k : Int) : Nat := l.findIdx (· == k)
theorem first_le (l : List Int) (k : Int) : firstI l k ≤ l.length := List.findIdx_le_length
theorem first_at {l : List Int} {k : Int} (h : k ∈ l) : ∃ hi : firstI l k < l.length, l[firstI l k] = k := by
  have h1 : firstI l k < l.length := List.findIdx_lt_length_of_exists ⟨k, h, by simp⟩
  have h2 := List.findIdx_getElem (xs := l) (p := (· == k)) (w := h1)
  exact ⟨h1, eq_of_beq h2⟩
theorem first_not {l : List Int} {k : Int} {i : Nat} (hi : i < l.length) (h : i < firstI l k) : l[i] ≠ k := by
  have := List.not_of_lt_findIdx (h : i < l.findIdx (· == k))
  simpa using this
theorem first_stop {l : List Int} {k : Int} {i : Nat} (h : firstI l k = i) (hi : i < l.length) : l[i] = k := by
  subst h
  have h2 := List.findIdx_getElem (xs := l) (p := (· == k)) (w := hi)
  exact eq_of_beq h2
end
end Go.Proofs.Ytmafhaadcjgcbaa
end
