import Derived.Test.YtmafhaadcjgcbaaEditP
import Derived.Test.YtmafhaadcjgcbaaCopyP
import Derived.Test.YtmafhaadcjgcbaaRemoveP
set_option linter.unusedSimpArgs false
set_option linter.unusedVariables false
section
/- a model stays right behind a move, in plain Lean -/
namespace Go.Proofs.Ytmafhaadcjgcbaa
open Go Go.RowKit

/-! ### how often a number is a kid, behind an edit -/
theorem cnt_nil (k : Int) : cnt [] k = 0 := rfl
theorem cnt_map {l : List ANode} {g : ANode → ANode} {k : Int} (h : ∀ z ∈ l, (g z).kids.count k = z.kids.count k) : cnt (l.map g) k = cnt l k := by
  induction l with
  | nil => rfl
  | cons z r ih => rw [List.map_cons, cnt_cons, cnt_cons, h z (List.mem_cons_self ..), ih (fun y hy => h y (List.mem_cons_of_mem _ hy))]
theorem insAt_count (l : List Int) (q : Nat) (x k : Int) : (insAt l q x).count k = l.count k + if x = k then 1 else 0 := by
  unfold insAt
  rw [List.count_append, List.count_cons]
  have := congrArg (List.count k) (List.take_append_drop q l)
  rw [List.count_append] at this
  simp only [beq_iff_eq]
  omega
theorem cnt_place (ns : List ANode) {id p : Int} (role : ByteArray) (q : Nat) (hne : p ≠ id) (k : Int) : cnt (placeN ns id p role q) k = cnt ns k + if id = k then (ns.filter fun z => z.id == p).length else 0 := by
  unfold placeN
  induction ns with
  | nil => simp [cnt_nil]
  | cons z r ih =>
    rw [List.map_cons, cnt_cons, cnt_cons, ih]
    by_cases h1 : z.id = id
    · have h2 : (z.id == p) = false := beq_eq_false_iff_ne.2 (fun e => hne (e.symm.trans h1))
      rw [if_pos h1, List.filter_cons_of_neg (by rw [h2]; simp)]
      show z.kids.count k + _ = _
      omega
    · rw [if_neg h1]
      by_cases h2 : z.id = p
      · rw [if_pos h2, List.filter_cons_of_pos (by simp [h2]), List.length_cons]
        show (insAt z.kids q id).count k + _ = _
        rw [insAt_count]
        split <;> omega
      · rw [if_neg h2, List.filter_cons_of_neg (by simp [h2])]
        omega
theorem ids_nodup {ns : List ANode} (h : SrtB ns) : (ns.map (·.id)).Nodup := List.pairwise_iff_getElem.2 fun i j hi hj hij e => by
  rw [List.getElem_map, List.getElem_map] at e
  have := srtB_inj h (by simpa using hi) (by simpa using hj) e
  omega
theorem one_id {ns : List ANode} (h : SrtB ns) {z : ANode} (hz : z ∈ ns) : (ns.filter fun y => y.id == z.id).length = 1 := by
  have h1 : (ns.map (·.id)).count z.id = 1 := by
    have a := List.nodup_iff_count.1 (ids_nodup h) z.id
    have b := List.count_pos_iff.2 (List.mem_map_of_mem (f := (·.id)) hz)
    omega
  rw [← h1, List.count, List.countP_map, List.countP_eq_length_filter]
  rfl
theorem no_id {ns : List ANode} {p : Int} (h : ∀ z ∈ ns, z.id ≠ p) : (ns.filter fun y => y.id == p).length = 0 := by
  rw [List.filter_eq_nil_iff.2 (fun z hz => by simp [h z hz])]; rfl
/-! ### depths -/
/-- the same nodes, by number and parent, but below one -/
theorem dep_aside {m b : AModel} {S : Int → Prop} (hg : ∀ z ∈ m.nodes, ¬ S z.id → ∃ y ∈ b.nodes, y.id = z.id ∧ y.parent = z.parent) (hs : ∀ z ∈ m.nodes, S z.parent → S z.id) {d : Nat} {i : Int} (hd : Dep m d i) : ¬ S i → Dep b d i := by
  induction hd with
  | root z hz h0 =>
    intro hn
    obtain ⟨y, hy, e1, e2⟩ := hg z hz hn
    rw [← e1]; exact .root y hy (by rw [e2]; exact h0)
  | kid d z hz hp _ ih =>
    intro hn
    obtain ⟨y, hy, e1, e2⟩ := hg z hz hn
    rw [← e1]
    exact .kid d y hy (by rw [e2]; exact hp) (by rw [e2]; exact ih (fun h => hn (hs z hz h)))

theorem hung {m : AModel} (h : CheckM m) {z : ANode} (hz : z ∈ m.nodes) (hp : z.parent ≠ 0) : ∃ y ∈ m.nodes, y.id = z.parent ∧ z.id ∈ y.kids := by
  have h1 := (h.2.2.2.1 z hz).2 hp
  have h2 : z.id ∈ m.nodes.flatMap ANode.kids := List.count_pos_iff.1 (by unfold cnt at h1; omega)
  obtain ⟨y, hy, hk⟩ := List.mem_flatMap.1 h2
  obtain ⟨w, hw, e1, e2⟩ := h.2.2.1 y hy z.id hk
  have := node_inj h.1.2 hw hz e1
  subst this
  exact ⟨y, hy, e2.symm, hk⟩
/-- what stands at a node or below it -/
def InT (m : AModel) (x : ANode) (i : Int) : Prop := i ∈ ksL m x.id
theorem inT_kid {m : AModel} (h : CheckM m) {x : ANode} (hx : x ∈ m.nodes) {z : ANode} (hz : z ∈ m.nodes) (hp : InT m x z.parent) : InT m x z.id := by
  have h0 : z.parent ≠ 0 := fun e => by
    obtain ⟨y, hy, e2⟩ := ks_node h.tree hx hp
    have := id_pos h.1.2 hy
    omega
  obtain ⟨y, hy, e, hk⟩ := hung h hz h0
  exact List.mem_cons_of_mem _ (ks_kids h.tree hx hy (by rw [e]; exact hp) hk)
theorem placeN_ids (ns : List ANode) (id p : Int) (role : ByteArray) (q : Nat) : (placeN ns id p role q).map (·.id) = ns.map (·.id) := by
  unfold placeN
  rw [List.map_map]
  apply List.map_congr_left
  intro y _
  show (if y.id = id then _ else _ : ANode).id = y.id
  split
  · rfl
  · split <;> rfl
theorem rootE_none {role : ByteArray} {a : Int} (h : rootE role a = 0) : role.size = 0 := by
  unfold rootE at h
  split at h
  · exact ‹_ ∧ _›.1
  · cases h
open Classical in
theorem moveE_zero {m : AModel} {id p a : Int} {role : ByteArray} (h : moveE m id p role a = 0) : CheckM m ∧ (p ≠ 0 → wordA role = true) ∧ (∃ x ∈ m.nodes, x.id = id ∧ nodeOf m id = x) ∧ (p ≠ 0 → ∃ y ∈ m.nodes, y.id = p) ∧ p ≠ id ∧ p ∉ belowL m id ∧ goalE (mu m (nodeOf m id)) p role a (dN m p) (heightN m id : Nat) = 0 := by
  by_cases hc : CheckM m
  · by_cases hw : p ≠ 0 → wordA role = true
    · by_cases hn : atI m.nodes id < 0 ∨ (p ≠ 0 ∧ atI m.nodes p < 0)
      · rw [moveE_node hc hw hn] at h; cases h
      · by_cases hl : p = id ∨ p ∈ belowL m id
        · rw [moveE_loop hc hw hn hl] at h; cases h
        · rw [moveE_goal hc hw hn hl] at h
          have find : ∀ k, ¬ atI m.nodes k < 0 → ∃ y ∈ m.nodes, y.id = k := fun k hk => by
            rcases atI_cases m.nodes k with ⟨j, hj, hj1, hj2⟩ | ⟨hj1, hj2⟩
            · exact ⟨m.nodes[j], List.getElem_mem hj, hj1⟩
            · exact absurd (by rw [hj2]; omega) hk
          obtain ⟨x, hx, e⟩ := find id (fun e => hn (.inl e))
          exact ⟨hc, hw, ⟨x, hx, e, by rw [← e]; exact hc.tree.nodeOf hx⟩, fun hp => find p (fun e => hn (.inr ⟨hp, e⟩)), fun e => hl (.inl e), fun e => hl (.inr e), h⟩
    · have hp : p ≠ 0 := fun e => hw (fun h => absurd e h)
      have hw2 : wordA role = false := by
        cases e : wordA role with
        | false => rfl
        | true => exact absurd (fun _ => e) hw
      rw [moveE_word hc hp hw2] at h; cases h
  · rw [moveE_check hc] at h; cases h

theorem most_ge {m : AModel} : ∀ {l : List Int} {d : Nat} {k : Int}, k ∈ l → dN m k ≤ mostTo m d l
  | c :: r, d, k, hk => by
    rcases List.mem_cons.1 hk with e | e
    · subst e; exact Nat.le_trans (Nat.le_max_right d (dN m k)) (mostTo_ge m r (max d (dN m k)))
    · exact most_ge (l := r) (d := max d (dN m c)) e
/-- a subtree moved: its nodes stand as deep below the new place as they stood below the old one -/
theorem dep_moved {m b : AModel} (h : CheckM m) {x : ANode} (hx : x ∈ m.nodes) {dx dn : Nat} (hdx : Dep m dx x.id) (hn : Dep b dn x.id) (hg : ∀ z ∈ m.nodes, z.id ≠ x.id → ∃ y ∈ b.nodes, y.id = z.id ∧ y.parent = z.parent) :
    ∀ k ∈ ksL m x.id, ∃ e, Dep m (dx + e) k ∧ Dep b (dn + e) k := by
  have key : ∀ z ∈ m.nodes, z.id ∈ ksL m x.id → (∃ e, Dep m (dx + e) z.id ∧ Dep b (dn + e) z.id) → ∀ k ∈ belowL m z.id, ∃ e, Dep m (dx + e) k ∧ Dep b (dn + e) k := by
    refine h.tree.induct fun z hz ih hin ⟨e, h1, h2⟩ k hk => ?_
    rw [h.tree.below_eq hz] at hk
    obtain ⟨c, hc, hk⟩ := List.mem_flatMap.1 hk
    obtain ⟨y, hy, rfl, e2, e3⟩ := h.tree.kid hz hc
    have hyb : y.id ∈ belowL m x.id := ks_kids h.tree hx hz hin hc
    have hne : y.id ≠ x.id := fun e4 => h.tree.not_below hx (by have h9 := hyb; rw [e4] at h9; exact h9)
    obtain ⟨y', hy', e5, e6⟩ := hg y hy hne
    have g1 : Dep m (dx + (e + 1)) y.id := .kid (dx + e) y hy e3 (by rw [e2]; exact h1)
    have g2 : Dep b (dn + (e + 1)) y.id := by rw [← e5]; exact .kid (dn + e) y' hy' (by rw [e6]; exact e3) (by rw [e6, e2]; exact h2)
    rcases List.mem_cons.1 hk with e7 | e7
    · rw [e7]; exact ⟨e + 1, g1, g2⟩
    · exact ih y hy hc (List.mem_cons_of_mem _ hyb) ⟨e + 1, g1, g2⟩ k e7
  intro k hk
  rcases List.mem_cons.1 hk with e | e
  · rw [e]; exact ⟨0, hdx, hn⟩
  · exact key x hx (List.mem_cons_self ..) ⟨0, hdx, hn⟩ k e

theorem goal_high {m : AModel} (hFm : Fam m) {p : Int} {role : ByteArray} {a : Int} {d high : Int} (hp : p ≠ 0) (hy : ∃ y ∈ m.nodes, y.id = p) (h : goalE m p role a d high = 0) : d + high ≤ 64 := by
  obtain ⟨y, hy, rfl⟩ := hy
  rw [goalE_kid hFm hy hp] at h
  unfold kidE at h
  split at h
  · split at h
    · cases h
    · omega
  · cases h
theorem mu_nodup {m : AModel} (h : CheckM m) {x : ANode} : ∀ y ∈ (mu m x).nodes, y.kids.Nodup := fun y hy => by
  obtain ⟨z, hz, rfl⟩ := List.mem_map.1 hy
  have hn := h.tree.kids_nodup hz
  split
  · exact List.Nodup.sublist List.filter_sublist hn
  · exact hn
theorem mu_cnt {m : AModel} {x : ANode} {k : Int} (hk : k ≠ x.id) : cnt (mu m x).nodes k = cnt m.nodes k := by
  show cnt (unhangN m.nodes x.parent x.id) k = _
  unfold unhangN
  refine cnt_map fun z _ => ?_
  split
  · show (z.kids.filter _).count k = _
    exact List.count_filter (by simpa using hk)
  · rfl
theorem insAt_mem {l : List Int} {q : Nat} {y k : Int} (h : k ∈ insAt l q y) : k = y ∨ k ∈ l := by
  rcases List.mem_append.1 h with h | h
  · exact .inr (List.mem_of_mem_take h)
  · rcases List.mem_cons.1 h with h | h
    · exact .inl h
    · exact .inr (List.mem_of_mem_drop h)
theorem insAt_length (l : List Int) (q : Nat) (y : Int) : (insAt l q y).length = l.length + 1 := by
  unfold insAt
  rw [List.length_append, List.length_cons]
  have := congrArg List.length (List.take_append_drop q l)
  rw [List.length_append] at this
  omega
theorem move_check {m : AModel} {id p a : Int} {role : ByteArray} (hE : moveE m id p role a = 0) : CheckM ⟨m.next, moveL m id p role a⟩ := by
  obtain ⟨h, hw, ⟨x, hx, rfl, hxo⟩, hpy, hne, hnb, hg⟩ := moveE_zero hE
  rw [hxo] at hg
  obtain ⟨q, hq⟩ : ∃ q, (iOf (mu m x) p role a).toNat = q := ⟨_, rfl⟩
  have hL : moveL m x.id p role a = placeN (mu m x).nodes x.id p role q := by unfold moveL; rw [hxo, hq]
  rw [hL]
  have hs1 := mu_srt (x := x) h
  have hids : (placeN (mu m x).nodes x.id p role q).map (·.id) = m.nodes.map (·.id) := (placeN_ids _ _ _ _ _).trans (mu_ids2 m x)
  have hlen : (placeN (mu m x).nodes x.id p role q).length = m.nodes.length := by rw [placeN_len, mu_len]
  have hii := idAt_congr (m' := ⟨m.next, placeN (mu m x).nodes x.id p role q⟩) h.1.2 rfl hids
  -- the nodes: each stems from one
  let g : ANode → ANode := fun z => if z.id = x.id then { z with parent := p, role := role } else if z.id = p then { z with kids := insAt z.kids q x.id } else z
  have himg : ∀ z1 ∈ (mu m x).nodes, g z1 ∈ placeN (mu m x).nodes x.id p role q := fun z1 hz1 => List.mem_map.2 ⟨z1, hz1, rfl⟩
  have hgid : ∀ z1, (g z1).id = z1.id := fun z1 => by show (if _ then _ else _ : ANode).id = _; split; rfl; split <;> rfl
  have hgpar : ∀ z1, z1.id ≠ x.id → (g z1).parent = z1.parent := fun z1 hz => by show (if _ then _ else _ : ANode).parent = _; rw [if_neg hz]; split <;> rfl
  have hlike : ∀ z ∈ m.nodes, z.id ≠ x.id → ∃ y ∈ placeN (mu m x).nodes x.id p role q, y.id = z.id ∧ y.parent = z.parent := fun z hz hzx => by
    obtain ⟨y, hy, e1, e2⟩ := mu_node (x := x) hz
    exact ⟨g y, himg y hy, by rw [hgid, e1], by rw [hgpar y (by rw [e1]; exact hzx), e2]⟩
  have hxl : ∃ y ∈ placeN (mu m x).nodes x.id p role q, y.id = x.id ∧ y.parent = p := by
    obtain ⟨y, hy, e1, e2⟩ := mu_node (x := x) hx
    exact ⟨g y, himg y hy, by rw [hgid, e1], by show (if _ then _ else _ : ANode).parent = _; rw [if_pos e1]⟩
  have hw2 : p ≠ 0 → role.size ≠ 0 := fun hp => word_some (hw hp)
  have hr0 : p = 0 → role.size = 0 := fun hp => by subst hp; rw [goalE_root] at hg; exact rootE_none hg
  have hnk := mu_nokid (x := x) h hx
  refine ⟨⟨⟨h.1.1.1, h.1.1.2.1, by show (placeN _ _ _ _ _).length ≤ _; rw [hlen]; exact h.1.1.2.2⟩, hii⟩, fun y hy => ?_, fun y hy k hk => ?_, fun y hy => ?_, fun y hy => ?_⟩
  · obtain ⟨z1, hz1, rfl⟩ := List.mem_map.1 (show y ∈ placeN (mu m x).nodes x.id p role q from hy)
    obtain ⟨z, hz, e1, e2, e3, e4, e5, e6, hk, hkl, _⟩ := mu_mem hz1
    obtain ⟨a1, a2, a3, a4, a5, a6⟩ := h.2.1 z hz
    by_cases c1 : z1.id = x.id
    · rw [if_pos c1]
      refine ⟨by show wordA z1.concept = true; rw [e4]; exact a1, ⟨hr0, fun hs => ?_⟩, fun hs => hw (fun e => hs (hr0 e)), ?_, by show PropsOK z1.props; rw [e5]; exact a5, by show RefsOK m.next z1.refs; rw [e6]; exact a6⟩
      · by_cases hp : p = 0
        · exact hp
        · exact absurd hs (hw2 hp)
      · show z1.kids.length ≤ (placeN _ _ _ _ _).length; rw [hlen]; omega
    · rw [if_neg c1]
      by_cases c2 : z1.id = p
      · rw [if_pos c2]
        refine ⟨by show wordA z1.concept = true; rw [e4]; exact a1, by show z1.parent = 0 ↔ z1.role.size = 0; rw [e2, e3]; exact a2, by show z1.role.size ≠ 0 → wordA z1.role = true; rw [e3]; exact a3, ?_, by show PropsOK z1.props; rw [e5]; exact a5, by show RefsOK m.next z1.refs; rw [e6]; exact a6⟩
        show (insAt z1.kids q x.id).length ≤ (placeN _ _ _ _ _).length
        rw [hlen, insAt_length]
        have hnd : (x.id :: z1.kids).Nodup := List.nodup_cons.2 ⟨hnk z1 hz1, mu_nodup h z1 hz1⟩
        have := len_le (L := m.nodes.map (·.id)) hnd (fun k hk2 => by
          rcases List.mem_cons.1 hk2 with e | e
          · rw [e]; exact List.mem_map_of_mem hx
          · have := mu_closed (x := x) h z1 hz1 k e
            rw [mu_ids2] at this; exact this)
        simpa using this
      · rw [if_neg c2]
        exact ⟨by rw [e4]; exact a1, by rw [e2, e3]; exact a2, by rw [e3]; exact a3, by show z1.kids.length ≤ (placeN _ _ _ _ _).length; rw [hlen]; omega, by rw [e5]; exact a5, by show RefsOK m.next z1.refs; rw [e6]; exact a6⟩
  · obtain ⟨z1, hz1, rfl⟩ := List.mem_map.1 (show y ∈ placeN (mu m x).nodes x.id p role q from hy)
    obtain ⟨z, hz, e1, _, _, _, _, _, hk1, _, _⟩ := mu_mem hz1
    have old : ∀ k ∈ z1.kids, KidAt ⟨m.next, placeN (mu m x).nodes x.id p role q⟩ z1.id k := fun k hk => by
      obtain ⟨w, hw1, f1, f2⟩ := h.2.2.1 z hz k (hk1 k hk)
      have hkx : k ≠ x.id := fun e => hnk z1 hz1 (by rw [← e]; exact hk)
      obtain ⟨y', hy', f3, f4⟩ := hlike w hw1 (by rw [f1]; exact hkx)
      exact ⟨y', hy', f3.trans f1, by rw [f4, f2, e1]⟩
    by_cases c1 : z1.id = x.id
    · rw [if_pos c1] at hk ⊢; exact old k hk
    · rw [if_neg c1] at hk ⊢
      by_cases c2 : z1.id = p
      · rw [if_pos c2] at hk ⊢
        rcases insAt_mem hk with e | e
        · obtain ⟨y', hy', f3, f4⟩ := hxl
          exact ⟨y', hy', by rw [e]; exact f3, by rw [f4]; exact c2.symm⟩
        · exact old k e
      · rw [if_neg c2] at hk ⊢; exact old k hk
  · obtain ⟨z1, hz1, rfl⟩ := List.mem_map.1 (show y ∈ placeN (mu m x).nodes x.id p role q from hy)
    obtain ⟨z, hz, e1, e2, _⟩ := mu_mem hz1
    have hid := hgid z1
    have hcp := cnt_place (mu m x).nodes role q hne z1.id
    show ((g z1).parent = 0 → cnt (placeN (mu m x).nodes x.id p role q) (g z1).id = 0) ∧ ((g z1).parent ≠ 0 → cnt (placeN (mu m x).nodes x.id p role q) (g z1).id = 1)
    rw [hid, hcp]
    by_cases c1 : z1.id = x.id
    · have hpar : (g z1).parent = p := by show (if _ then _ else _ : ANode).parent = _; rw [if_pos c1]
      rw [hpar, if_pos c1.symm, c1, cnt_zero hnk]
      refine ⟨fun hp => ?_, fun hp => ?_⟩
      · rw [no_id (fun y2 hy2 e => by
          obtain ⟨i, hi, rfl⟩ := List.getElem_of_mem hy2
          have := (hs1.2 i hi).1
          omega)]
      · obtain ⟨y0, hy0, e0⟩ := hpy hp
        obtain ⟨y1, hy1, f1, _⟩ := mu_node (x := x) hy0
        rw [← e0, ← f1, one_id hs1 hy1]
    · rw [hgpar z1 c1, if_neg (fun e => c1 e.symm), mu_cnt c1, e2, e1]
      exact h.2.2.2.1 z hz
  · obtain ⟨z1, hz1, rfl⟩ := List.mem_map.1 (show y ∈ placeN (mu m x).nodes x.id p role q from hy)
    obtain ⟨z, hz, e1, _⟩ := mu_mem hz1
    have hid := hgid z1
    have aside : ∀ {d : Nat} {i : Int}, Dep m d i → ¬ InT m x i → Dep ⟨m.next, placeN (mu m x).nodes x.id p role q⟩ d i := fun hd hn =>
      dep_aside (S := InT m x) (fun w hw1 hn2 => hlike w hw1 (fun e => hn2 (by rw [e]; exact List.mem_cons_self ..))) (fun w hw1 => inT_kid h hx hw1) hd hn
    obtain ⟨d, hd6, hd⟩ := h.tree.dep z hz
    have : ∃ d', d' ≤ 64 ∧ Dep ⟨m.next, placeN (mu m x).nodes x.id p role q⟩ d' z.id := by
      by_cases hin : InT m x z.id
      · obtain ⟨dx, hdx6, hdx⟩ := h.tree.dep x hx
        have hh := height_le h hx
        have hst : ∃ dn, Dep ⟨m.next, placeN (mu m x).nodes x.id p role q⟩ dn x.id ∧ dn + heightN m x.id ≤ 65 := by
          obtain ⟨y', hy', f3, f4⟩ := hxl
          by_cases hp : p = 0
          · exact ⟨1, by have g := Dep.root (m := ⟨m.next, placeN (mu m x).nodes x.id p role q⟩) y' hy' (by rw [f4]; exact hp); rw [f3] at g; exact g, by omega⟩
          · obtain ⟨y0, hy0, e0⟩ := hpy hp
            obtain ⟨dp, _, hdp⟩ := h.tree.dep y0 hy0
            rw [e0] at hdp
            have hb := aside hdp (fun hi => by rcases List.mem_cons.1 hi with e | e; exact hne e; exact hnb e)
            rw [dN_yes h hdp] at hg
            have h64 := goal_high (mu_fam (x := x) h) hp (by obtain ⟨y1, hy1, f1, _⟩ := mu_node (x := x) hy0; exact ⟨y1, hy1, by rw [f1, e0]⟩) hg
            exact ⟨dp + 1, by have g := Dep.kid (m := ⟨m.next, placeN (mu m x).nodes x.id p role q⟩) dp y' hy' (by rw [f4]; exact hp) (by rw [f4]; exact hb); rw [f3] at g; exact g, by omega⟩
        obtain ⟨dn, hdn, hdn6⟩ := hst
        obtain ⟨e, g1, g2⟩ := dep_moved h hx hdx hdn (fun w hw1 hwx => hlike w hw1 hwx) z.id hin
        refine ⟨dn + e, ?_, g2⟩
        have h3 : e + 1 ≤ heightN m x.id := by
          unfold heightN
          rw [dN_yes h hdx]
          rcases List.mem_cons.1 hin with e9 | e9
          · rw [e9] at g1
            have := g1.uniq h.1.2 hdx
            omega
          · have := most_ge (m := m) (d := dx) e9
            rw [dN_yes h g1] at this
            omega
        omega
      · exact ⟨d, hd6, aside hd hin⟩
    obtain ⟨d', hd'6, hd'⟩ := this
    refine up_of_dep hii 64 d' _ hy ?_ hd'6
    show Dep _ d' (g z1).id
    rw [hid, e1]; exact hd'
end Go.Proofs.Ytmafhaadcjgcbaa
end
section
/- a model stays right where a node is taken away with all below it, in plain Lean -/
namespace Go.Proofs.Ytmafhaadcjgcbaa
open Go Go.RowKit

theorem idAt_pair {nx : Int} {l : List ANode} (h1 : ∀ y ∈ l, 1 ≤ y.id ∧ y.id < nx) (h2 : l.Pairwise (fun a b => a.id < b.id)) : ∀ i, IdAt ⟨nx, l⟩ i := fun i hi =>
  ⟨(h1 _ (List.getElem_mem hi)).1, (h1 _ (List.getElem_mem hi)).2, fun h0 => List.pairwise_iff_getElem.1 h2 (i - 1) i (by show i - 1 < l.length; have : i < l.length := hi; omega) hi (by omega)⟩
theorem ids_pair {m : AModel} (h : ∀ i, IdAt m i) : m.nodes.Pairwise (fun a b => a.id < b.id) := List.pairwise_iff_getElem.2 fun i j hi hj hij => ids_lt h i j hi hj hij
theorem ids_in {m : AModel} (h : ∀ i, IdAt m i) : ∀ y ∈ m.nodes, 1 ≤ y.id ∧ y.id < m.next := fun y hy => by
  obtain ⟨i, hi, rfl⟩ := List.getElem_of_mem hy
  exact ⟨(h i hi).1, (h i hi).2.1⟩
theorem cnt_filter {l : List ANode} {P : ANode → Bool} {k : Int} (h : ∀ z ∈ l, P z = false → k ∉ z.kids) : cnt (l.filter P) k = cnt l k := by
  induction l with
  | nil => rfl
  | cons z r ih =>
    have ih2 := ih (fun y hy => h y (List.mem_cons_of_mem _ hy))
    cases hp : P z with
    | true => rw [List.filter_cons_of_pos hp, cnt_cons, cnt_cons, ih2]
    | false =>
      rw [List.filter_cons_of_neg (by rw [hp]; simp), cnt_cons, ih2, List.count_eq_zero.2 (h z (List.mem_cons_self ..) hp)]
      omega
open Classical in
theorem removeE_zero {m : AModel} {id : Int} (h : removeE m id = 0) : CheckM m ∧ ∃ x ∈ m.nodes, x.id = id ∧ nodeOf m id = x := by
  unfold removeE at h
  by_cases hc : CheckM m
  · rw [if_neg (fun e => e hc)] at h
    rcases atI_cases m.nodes id with ⟨j, hj, hj1, hj2⟩ | ⟨hj1, hj2⟩
    · exact ⟨hc, m.nodes[j], List.getElem_mem hj, hj1, by rw [← hj1]; exact hc.tree.nodeOf (List.getElem_mem hj)⟩
    · rw [if_pos (by rw [hj2]; omega)] at h; cases h
  · rw [if_pos hc] at h; cases h
theorem remove_check {m : AModel} {id : Int} (hE : removeE m id = 0) : CheckM ⟨m.next, removeL m id⟩ := by
  obtain ⟨h, x, hx, rfl, hxo⟩ := removeE_zero hE
  have hL : removeL m x.id = (mu m x).nodes.filter (fun y => !decide (y.id ∈ belowL m x.id ++ [x.id])) := by unfold removeL; rw [hxo]
  rw [hL]
  have hin : ∀ i, (i ∈ belowL m x.id ++ [x.id]) ↔ InT m x i := fun i => by
    unfold InT ksL
    rw [List.mem_append, List.mem_singleton, List.mem_cons]
    exact Or.comm
  let P : ANode → Bool := fun y => !decide (y.id ∈ belowL m x.id ++ [x.id])
  have hP : ∀ y, P y = true ↔ ¬ InT m x y.id := fun y => by
    show (!decide _) = true ↔ _
    rw [Bool.not_eq_true', decide_eq_false_iff_not, hin]
  have hnk := mu_nokid (x := x) h hx
  have hids := idAt_congr (m' := mu m x) h.1.2 rfl (mu_ids2 m x)
  have hlike : ∀ z ∈ m.nodes, ¬ InT m x z.id → ∃ y ∈ (mu m x).nodes.filter P, y.id = z.id ∧ y.parent = z.parent := fun z hz hn => by
    obtain ⟨y, hy, e1, e2⟩ := mu_node (x := x) hz
    exact ⟨y, List.mem_filter.2 ⟨hy, (hP y).2 (by rw [e1]; exact hn)⟩, e1, e2⟩
  have hii : ∀ i, IdAt ⟨m.next, (mu m x).nodes.filter P⟩ i := idAt_pair (fun y hy => ids_in hids y (List.mem_filter.1 hy).1) ((ids_pair hids).sublist List.filter_sublist)
  have hlen : ((mu m x).nodes.filter P).length ≤ m.nodes.length := by rw [← mu_len m x]; exact List.length_filter_le _ _
  have kept : ∀ y ∈ (mu m x).nodes.filter P, ∀ k ∈ y.kids, ∃ w ∈ m.nodes, w.id = k ∧ w.parent = y.id ∧ ¬ InT m x k := fun y hy k hk => by
    obtain ⟨hy1, hy2⟩ := List.mem_filter.1 hy
    have hny := (hP y).1 hy2
    obtain ⟨z, hz, e1, _, _, _, _, _, hks, _⟩ := mu_mem hy1
    obtain ⟨w, hw, f1, f2⟩ := h.2.2.1 z hz k (hks k hk)
    refine ⟨w, hw, f1, by rw [f2, e1], fun hi => ?_⟩
    rcases List.mem_cons.1 hi with e | e
    · exact hnk y hy1 (by rw [← e]; exact hk)
    · rw [← f1] at e
      refine hny ?_
      rw [e1, ← f2]
      rcases h.tree.below_parent x hx w hw e with e9 | e9
      · rw [e9]; exact List.mem_cons_self ..
      · exact List.mem_cons_of_mem _ e9
  refine ⟨⟨⟨h.1.1.1, h.1.1.2.1, Nat.le_trans hlen h.1.1.2.2⟩, hii⟩, fun y hy => ?_, fun y hy k hk => ?_, fun y hy => ?_, fun y hy => ?_⟩
  · obtain ⟨hy1, hy2⟩ := List.mem_filter.1 hy
    obtain ⟨z, hz, e1, e2, e3, e4, e5, e6, hks, _⟩ := mu_mem hy1
    obtain ⟨a1, a2, a3, a4, a5, a6⟩ := h.2.1 z hz
    refine ⟨by rw [e4]; exact a1, by rw [e2, e3]; exact a2, by rw [e3]; exact a3, ?_, by rw [e5]; exact a5, by show RefsOK m.next y.refs; rw [e6]; exact a6⟩
    have := len_le (L := ((mu m x).nodes.filter P).map (·.id)) (mu_nodup h y hy1) (fun k hk => by
      obtain ⟨w, hw, f1, _, hn⟩ := kept y hy k hk
      obtain ⟨y', hy', g1, _⟩ := hlike w hw (by rw [f1]; exact hn)
      rw [← f1, ← g1]; exact List.mem_map_of_mem hy')
    rw [List.length_map] at this
    exact this
  · obtain ⟨w, hw, f1, f2, hn⟩ := kept y hy k hk
    obtain ⟨y', hy', g1, g2⟩ := hlike w hw (by rw [f1]; exact hn)
    exact ⟨y', hy', g1.trans f1, g2.trans f2⟩
  · obtain ⟨hy1, hy2⟩ := List.mem_filter.1 hy
    have hny := (hP y).1 hy2
    obtain ⟨z, hz, e1, e2, _⟩ := mu_mem hy1
    have hyx : y.id ≠ x.id := fun e => hny (by rw [e]; exact List.mem_cons_self ..)
    have hc : cnt ((mu m x).nodes.filter P) y.id = cnt m.nodes z.id := by
      rw [cnt_filter (fun z1 hz1 hp hk => ?_), mu_cnt hyx, e1]
      have hi : InT m x z1.id := by
        cases Classical.em (InT m x z1.id) with
        | inl h => exact h
        | inr h => rw [(hP z1).2 h] at hp; cases hp
      obtain ⟨z2, hz2, f1, _, _, _, _, _, hks, _⟩ := mu_mem hz1
      exact hny (List.mem_cons_of_mem _ (ks_kids h.tree hx hz2 (by rw [← f1]; exact hi) (hks _ hk)))
    show (y.parent = 0 → cnt ((mu m x).nodes.filter P) y.id = 0) ∧ (y.parent ≠ 0 → cnt ((mu m x).nodes.filter P) y.id = 1)
    rw [hc, e2]
    exact h.2.2.2.1 z hz
  · obtain ⟨hy1, hy2⟩ := List.mem_filter.1 hy
    have hny := (hP y).1 hy2
    obtain ⟨z, hz, e1, _⟩ := mu_mem hy1
    obtain ⟨d, hd6, hd⟩ := h.tree.dep z hz
    refine up_of_dep hii 64 d y hy ?_ hd6
    rw [e1]
    exact dep_aside (S := InT m x) hlike (fun w hw1 => inT_kid h hx hw1) hd (by rw [← e1]; exact hny)
end Go.Proofs.Ytmafhaadcjgcbaa
end
section
/- a model stays right where a reference is aimed, in plain Lean -/
namespace Go.Proofs.Ytmafhaadcjgcbaa
open Go Go.RowKit

theorem refsOK_iff {n : Int} {l : List ARef} : RefsOK n l ↔ (∀ x ∈ l, wordA x.role = true ∧ 1 ≤ x.target ∧ x.target < n) ∧ SrtN ARef.role l := by
  refine ⟨fun h => ⟨fun x hx => ?_, refs_srt h⟩, fun h i hi => ⟨(h.1 _ (List.getElem_mem hi)).1, (h.1 _ (List.getElem_mem hi)).2.1, (h.1 _ (List.getElem_mem hi)).2.2, fun h0 => ?_⟩⟩
  · obtain ⟨i, hi, rfl⟩ := List.getElem_of_mem hx
    exact ⟨(h i hi).1, (h i hi).2.1, (h i hi).2.2.1⟩
  · rw [geS_less, h.2 (i - 1) i (by omega) hi (by omega)]; rfl
theorem refs_aim {n : Int} {l : List ARef} {nm : ByteArray} {tg : Int} (h : RefsOK n l) (hw : wordA nm = true) (ht : 1 ≤ tg ∧ tg < n) : RefsOK n (setK ARef.role l nm ⟨nm, tg⟩) := by
  rw [refsOK_iff] at h ⊢
  refine ⟨fun x hx => ?_, setK_srt h.2 rfl⟩
  rcases setK_mem hx with e | e
  · exact h.1 x e
  · subst e; exact ⟨hw, ht.1, ht.2⟩
theorem aim_check {m : AModel} (h : CheckM m) {j : Nat} (hj : j < m.nodes.length) {nm : ByteArray} {tg : Int} (hw : wordA nm = true) (ht : ∃ y ∈ m.nodes, y.id = tg) : CheckM ⟨m.next, m.nodes.set j (aimN nm tg m.nodes[j])⟩ := by
  obtain ⟨y, hy, e⟩ := ht
  obtain ⟨i, hi, rfl⟩ := List.getElem_of_mem hy
  have h1 := h.1.2 i hi
  exact set_check h hj rfl rfl rfl rfl rfl (h.2.1 _ (List.getElem_mem hj)).2.2.2.2.1 (refs_aim (h.2.1 _ (List.getElem_mem hj)).2.2.2.2.2 hw ⟨by rw [← e]; exact h1.1, by rw [← e]; exact h1.2.1⟩)
end Go.Proofs.Ytmafhaadcjgcbaa
end
section
/- a model stays right where a node is copied with all below it, in plain Lean -/
namespace Go.Proofs.Ytmafhaadcjgcbaa
open Go Go.RowKit

open Classical in
theorem copyE_zero {m : AModel} {id p a : Int} {role : ByteArray} (h : copyE m id p role a = 0) : CheckM m ∧ (p ≠ 0 → wordA role = true) ∧ (∃ x ∈ m.nodes, x.id = id ∧ nodeOf m id = x) ∧ (p ≠ 0 → ∃ y ∈ m.nodes, y.id = p) ∧ goalE m p role a (dN m p) (heightN m id : Nat) = 0 ∧ m.nodes.length + (ksL m id).length ≤ 4096 ∧ m.next + (ksL m id).length ≤ 1048577 := by
  by_cases hc : CheckM m
  · by_cases hw : p ≠ 0 → wordA role = true
    · by_cases hn : atI m.nodes id < 0 ∨ (p ≠ 0 ∧ atI m.nodes p < 0)
      · rw [copyE_node hc hw hn] at h; cases h
      · by_cases hg : goalE m p role a (dN m p) (heightN m id : Nat) = 0
        · by_cases hf : 4096 < m.nodes.length + (ksL m id).length ∨ 1048577 < m.next + (ksL m id).length
          · rw [copyE_full hc hw hn hg hf] at h; cases h
          · have find : ∀ k, ¬ atI m.nodes k < 0 → ∃ y ∈ m.nodes, y.id = k := fun k hk => by
              rcases atI_cases m.nodes k with ⟨j, hj, hj1, hj2⟩ | ⟨hj1, hj2⟩
              · exact ⟨m.nodes[j], List.getElem_mem hj, hj1⟩
              · exact absurd (by rw [hj2]; omega) hk
            obtain ⟨x, hx, e⟩ := find id (fun e => hn (.inl e))
            exact ⟨hc, hw, ⟨x, hx, e, by rw [← e]; exact hc.tree.nodeOf hx⟩, fun hp => find p (fun e => hn (.inr ⟨hp, e⟩)), hg, by omega, by omega⟩
        · rw [copyE_goal hc hw hn hg] at h; exact absurd h hg
    · have hp : p ≠ 0 := fun e => hw (fun h => absurd e h)
      have hw2 : wordA role = false := by
        cases e : wordA role with
        | false => rfl
        | true => exact absurd (fun _ => e) hw
      rw [copyE_word hc hp hw2] at h; cases h
  · rw [copyE_check hc] at h; cases h
section
variable {m : AModel} {x : ANode} (h : CheckM m) (hx : x ∈ m.nodes)
include h hx
/-- each copy stems from a node at or below the first one -/
theorem copy_from {z : ANode} (hz : z ∈ copiesTo m (ksL m x.id) (ksL m x.id).length) : ∃ (i : Nat) (hi : i < (ksL m x.id).length), ∃ y ∈ m.nodes, y.id = (ksL m x.id)[i] ∧ z = copyN m (ksL m x.id) i y := by
  obtain ⟨i, hi, e⟩ := copies_mem hz
  obtain ⟨y, hy, ey⟩ := ks_node h.tree hx (List.getElem_mem hi)
  refine ⟨i, hi, y, hy, ey, ?_⟩
  rw [e, List.getD_eq_getElem?_getD, List.getElem?_eq_getElem hi]
  show copyN m _ i (nodeOf m (ksL m x.id)[i]) = _
  rw [← ey, h.tree.nodeOf hy]
omit hx in
/-- and each such node has its copy -/
theorem copy_to {i : Nat} (hi : i < (ksL m x.id).length) {y : ANode} (hy : y ∈ m.nodes) (e : y.id = (ksL m x.id)[i]) : copyN m (ksL m x.id) i y ∈ copiesTo m (ksL m x.id) (ksL m x.id).length := by
  have h1 := copies_at m (ksL m x.id) (ksL m x.id).length i hi
  rw [List.getD_eq_getElem?_getD, List.getElem?_eq_getElem hi] at h1
  have h2 : nodeOf m (ksL m x.id)[i] = y := by rw [← e]; exact h.tree.nodeOf hy
  rw [show (some (ksL m x.id)[i]).getD 0 = (ksL m x.id)[i] from rfl, h2] at h1
  rw [← h1]; exact List.getElem_mem _
theorem idx_at {i : Nat} (hi : i < (ksL m x.id).length) : idxI (ksL m x.id) (ksL m x.id)[i] = i := by
  rcases idxI_cases (ksL m x.id) (ksL m x.id)[i] with ⟨q, hq, e0, e, _⟩ | ⟨h2, _⟩
  · rw [e]
    have hnd := ks_nodup h.tree hx
    rcases Nat.lt_trichotomy q i with h1 | h1 | h1
    · exact absurd e0 (List.pairwise_iff_getElem.1 hnd q i hq hi h1)
    · rw [h1]
    · exact absurd e0.symm (List.pairwise_iff_getElem.1 hnd i q hi hq h1)
  · exact absurd (List.getElem_mem hi) h2
end

theorem no_copy {m : AModel} (h : CheckM m) {x : ANode} (hx : x ∈ m.nodes) {z : ANode} (hz : z ∈ copiesTo m (ksL m x.id) (ksL m x.id).length) {k : Int} (hk : k ∈ z.kids) : m.next < k ∧ k < m.next + (ksL m x.id).length := by
  obtain ⟨c, _, rfl, h1, h2⟩ := copies_kid h hx (Nat.le_refl _) hz hk
  omega
theorem copies_flat {m : AModel} (h : CheckM m) {x : ANode} (hx : x ∈ m.nodes) : ((copiesTo m (ksL m x.id) (ksL m x.id).length).flatMap ANode.kids).Nodup := by
  have hnd : (copiesTo m (ksL m x.id) (ksL m x.id).length).Nodup := List.pairwise_iff_getElem.2 fun i j hi hj hij e => by
    rw [copies_len] at hi hj
    have h1 := congrArg ANode.id e
    rw [copies_at _ _ _ _ hi, copies_at _ _ _ _ hj] at h1
    have : m.next + (i : Int) = m.next + j := h1
    omega
  have hinj : ∀ c ∈ belowL m x.id, ∀ c2 ∈ belowL m x.id, m.next + idxI (ksL m x.id) c = m.next + idxI (ksL m x.id) c2 → c = c2 := fun c hc c2 hc2 e => by
    rcases idxI_cases (ksL m x.id) c with ⟨q, hq, e1, e2, _⟩ | ⟨h2, _⟩
    · rcases idxI_cases (ksL m x.id) c2 with ⟨q2, hq2, e3, e4, _⟩ | ⟨h2, _⟩
      · have : q = q2 := by omega
        subst this
        rw [← e1, e3]
      · exact absurd (List.mem_cons_of_mem _ hc2) h2
    · exact absurd (List.mem_cons_of_mem _ hc) h2
  refine flat_nodup hnd (fun z hz => ?_) (fun z hz z2 hz2 hne k hk hk2 => ?_)
  · obtain ⟨i, hi, y, hy, ey, rfl⟩ := copy_from h hx hz
    have hyk := h.tree.kids_nodup hy
    show (y.kids.map _).Nodup
    refine List.pairwise_map.2 (hyk.imp_of_mem fun {c c2} hc hc2 hne e => hne ?_)
    have hin : ∀ c ∈ y.kids, c ∈ belowL m x.id := fun c hc => ks_kids h.tree hx hy (by rw [ey]; exact List.getElem_mem hi) hc
    exact hinj c (hin c hc) c2 (hin c2 hc2) e
  · obtain ⟨i, hi, y, hy, ey, rfl⟩ := copy_from h hx hz
    obtain ⟨i2, hi2, y2, hy2, ey2, rfl⟩ := copy_from h hx hz2
    obtain ⟨c, hc, e1⟩ := List.mem_map.1 (show k ∈ y.kids.map _ from hk)
    obtain ⟨c2, hc2, e2⟩ := List.mem_map.1 (show k ∈ y2.kids.map _ from hk2)
    have b1 := ks_kids h.tree hx hy (by rw [ey]; exact List.getElem_mem hi) hc
    have b2 := ks_kids h.tree hx hy2 (by rw [ey2]; exact List.getElem_mem hi2) hc2
    have : c = c2 := hinj c b1 c2 b2 (e1.trans e2.symm)
    subst this
    obtain ⟨w, hw, f1, f2, _⟩ := h.tree.kid hy hc
    obtain ⟨w2, hw2, g1, g2, _⟩ := h.tree.kid hy2 hc2
    have : w = w2 := node_inj h.1.2 hw hw2 (f1.trans g1.symm)
    subst this
    have e9 : y.id = y2.id := f2.symm.trans g2
    have e10 : i = i2 := by
      have a := idx_at h hx hi
      have b := idx_at h hx hi2
      rw [← ey, e9, ey2] at a
      rw [a] at b
      omega
    subst e10
    exact hne (by rw [node_inj h.1.2 hy hy2 e9])

theorem refs_copy {nx : Int} {ks : List Int} {l : List ARef} (h : RefsOK nx l) (hn : 1 ≤ nx) : RefsOK (nx + ks.length) (l.map (refTo nx ks)) := by
  have hr : ∀ r, (refTo nx ks r).role = r.role := fun r => by unfold refTo; split <;> rfl
  rw [refsOK_iff] at h ⊢
  refine ⟨fun r hr2 => ?_, fun i j hi hj hij => ?_⟩
  · obtain ⟨r0, h0, rfl⟩ := List.mem_map.1 hr2
    obtain ⟨b1, b2, b3⟩ := h.1 r0 h0
    rw [hr]
    refine ⟨b1, ?_⟩
    unfold refTo
    by_cases hk : r0.target ∈ ks
    · rw [if_pos hk]
      have := idx_lt hk
      show 1 ≤ nx + idxI ks r0.target ∧ nx + idxI ks r0.target < nx + ks.length
      omega
    · rw [if_neg hk]; omega
  · have := h.2 i j (by simpa using hi) (by simpa using hj) hij
    rw [List.getElem_map, List.getElem_map, hr, hr]; exact this
theorem idx_first {m : AModel} {x : ANode} (h : CheckM m) (hx : x ∈ m.nodes) : idxI (ksL m x.id) x.id = 0 := idx_at h hx (i := 0) (Nat.succ_pos _)
/-- whoever stands below has a place behind the first one -/
theorem idx_below {m : AModel} {x : ANode} (h : CheckM m) (hx : x ∈ m.nodes) {k : Int} (hk : k ∈ belowL m x.id) : ∃ (j : Nat) (hj : j < (ksL m x.id).length), j ≠ 0 ∧ (ksL m x.id)[j] = k ∧ idxI (ksL m x.id) k = j := by
  obtain ⟨j, hj, ej⟩ := List.getElem_of_mem (show k ∈ ksL m x.id from List.mem_cons_of_mem x.id hk)
  refine ⟨j, hj, fun e => ?_, ej, by rw [← ej]; exact idx_at h hx hj⟩
  subst e
  have : x.id = k := ej
  rw [← this] at hk
  exact h.tree.not_below hx hk
theorem below_at {m : AModel} {x : ANode} {i : Nat} (hi : i < (ksL m x.id).length) (h0 : i ≠ 0) : (ksL m x.id)[i] ∈ belowL m x.id := by
  obtain ⟨j, rfl⟩ : ∃ j, i = j + 1 := ⟨i - 1, by omega⟩
  have hj : j < (belowL m x.id).length := by
    have h : j + 1 < (x.id :: belowL m x.id).length := hi
    simpa using h
  exact (List.getElem_mem hj : (belowL m x.id)[j] ∈ belowL m x.id)
/-- a subtree copied: its copies stand as deep below the new place as it stood below the old one -/
theorem dep_copied {m b : AModel} (h : CheckM m) {x : ANode} (hx : x ∈ m.nodes) {dx dn : Nat} (hdx : Dep m dx x.id) (hn : Dep b dn m.next) (hg : ∀ y ∈ m.nodes, y.id ∈ belowL m x.id → ∃ z ∈ b.nodes, z.id = m.next + idxI (ksL m x.id) y.id ∧ z.parent = m.next + idxI (ksL m x.id) y.parent) :
    ∀ k ∈ ksL m x.id, ∃ e, Dep m (dx + e) k ∧ Dep b (dn + e) (m.next + idxI (ksL m x.id) k) := by
  have hn1 := h.1.1.1
  have key : ∀ z ∈ m.nodes, z.id ∈ ksL m x.id → (∃ e, Dep m (dx + e) z.id ∧ Dep b (dn + e) (m.next + idxI (ksL m x.id) z.id)) → ∀ k ∈ belowL m z.id, ∃ e, Dep m (dx + e) k ∧ Dep b (dn + e) (m.next + idxI (ksL m x.id) k) := by
    refine h.tree.induct fun z hz ih hin ⟨e, h1, h2⟩ k hk => ?_
    rw [h.tree.below_eq hz] at hk
    obtain ⟨c, hc, hk⟩ := List.mem_flatMap.1 hk
    obtain ⟨y, hy, rfl, e2, e3⟩ := h.tree.kid hz hc
    have hyb : y.id ∈ belowL m x.id := ks_kids h.tree hx hz hin hc
    obtain ⟨y', hy', e5, e6⟩ := hg y hy hyb
    have hps := (idx_lt (ks := ksL m x.id) hin).1
    have g1 : Dep m (dx + (e + 1)) y.id := .kid (dx + e) y hy e3 (by rw [e2]; exact h1)
    have g2 : Dep b (dn + (e + 1)) (m.next + idxI (ksL m x.id) y.id) := by
      rw [← e5]
      exact .kid (dn + e) y' hy' (by rw [e6, e2]; omega) (by rw [e6, e2]; exact h2)
    rcases List.mem_cons.1 hk with e7 | e7
    · rw [e7]; exact ⟨e + 1, g1, g2⟩
    · exact ih y hy hc (List.mem_cons_of_mem _ hyb) ⟨e + 1, g1, g2⟩ k e7
  have h0 : ∃ e, Dep m (dx + e) x.id ∧ Dep b (dn + e) (m.next + idxI (ksL m x.id) x.id) := ⟨0, hdx, by rw [idx_first h hx, Int.add_zero]; exact hn⟩
  intro k hk
  rcases List.mem_cons.1 hk with e | e
  · rw [e]; exact h0
  · exact key x hx (List.mem_cons_self ..) h0 k e

theorem copy_check {m : AModel} {id p a : Int} {role : ByteArray} (hE : copyE m id p role a = 0) : CheckM ⟨m.next + (ksL m id).length, copyL m id p role a⟩ := by
  obtain ⟨h, hw, ⟨x, hx, rfl, _⟩, hpy, hg, hlen, hnx⟩ := copyE_zero hE
  obtain ⟨q, hq⟩ : ∃ q, (iOf m p role a).toNat = q := ⟨_, rfl⟩
  obtain ⟨C, hC⟩ : ∃ C, copiesTo m (ksL m x.id) (ksL m x.id).length = C := ⟨_, rfl⟩
  have hL : copyL m x.id p role a = placeN (m.nodes ++ C) m.next p role q := by unfold copyL; rw [hq, hC]
  rw [hL]
  have hsrt : SrtB (m.nodes ++ C) := by rw [← hC]; exact copies_srt (x := x) h hnx (Nat.le_refl _)
  have hfrom : ∀ z ∈ C, ∃ (i : Nat) (hi : i < (ksL m x.id).length), ∃ y ∈ m.nodes, y.id = (ksL m x.id)[i] ∧ z = copyN m (ksL m x.id) i y := fun z hz => copy_from h hx (by rw [hC]; exact hz)
  have hto : ∀ (i : Nat) (hi : i < (ksL m x.id).length), ∀ y ∈ m.nodes, y.id = (ksL m x.id)[i] → copyN m (ksL m x.id) i y ∈ C := fun i hi y hy e => by rw [← hC]; exact copy_to h hi hy e
  have hnk : ∀ z ∈ C, ∀ k ∈ z.kids, m.next < k ∧ k < m.next + (ksL m x.id).length := fun z hz k hk => no_copy h hx (by rw [hC]; exact hz) hk
  have hflat : (C.flatMap ANode.kids).Nodup := by rw [← hC]; exact copies_flat h hx
  have hCl : C.length = (ksL m x.id).length := by rw [← hC]; exact copies_len _ _ _
  clear hC hL
  have hn1 := h.1.1.1
  have hlt := ids_in h.1.2
  have hplt : p < m.next := by
    by_cases hp : p = 0
    · omega
    · obtain ⟨y, hy, e2⟩ := hpy hp
      have := hlt y hy
      omega
  have hpn : p ≠ m.next := by omega
  have hpos : 0 < (ksL m x.id).length := Nat.succ_pos _
  have hplen : (placeN (m.nodes ++ C) m.next p role q).length = m.nodes.length + (ksL m x.id).length := by rw [placeN_len, List.length_append, hCl]
  let g : ANode → ANode := fun z => if z.id = m.next then { z with parent := p, role := role } else if z.id = p then { z with kids := insAt z.kids q m.next } else z
  have hmemb : ∀ z ∈ m.nodes ++ C, g z ∈ placeN (m.nodes ++ C) m.next p role q := fun z hz => List.mem_map.2 ⟨z, hz, rfl⟩
  have hgid : ∀ z, (g z).id = z.id := fun z => by show (if _ then _ else _ : ANode).id = _; split; rfl; split <;> rfl
  have hgpar : ∀ z, z.id ≠ m.next → (g z).parent = z.parent := fun z hz => by show (if _ then _ else _ : ANode).parent = _; rw [if_neg hz]; split <;> rfl
  have hgp0 : ∀ z, z.id = m.next → (g z).parent = p := fun z hz => by show (if _ then _ else _ : ANode).parent = _; rw [if_pos hz]
  have hlike : ∀ z ∈ m.nodes, ∃ y ∈ placeN (m.nodes ++ C) m.next p role q, y.id = z.id ∧ y.parent = z.parent := fun z hz => ⟨g z, hmemb z (List.mem_append_left _ hz), hgid z, hgpar z (by have := hlt z hz; omega)⟩
  have hid0 : ∀ y, (copyN m (ksL m x.id) 0 y).id = m.next := fun y => by show m.next + ((0 : Nat) : Int) = m.next; omega
  have hidi : ∀ i y, i ≠ 0 → (copyN m (ksL m x.id) i y).id ≠ m.next := fun i y h0 => by show m.next + (i : Int) ≠ m.next; omega
  have hfirst : ∃ y ∈ placeN (m.nodes ++ C) m.next p role q, y.id = m.next ∧ y.parent = p :=
    ⟨g (copyN m (ksL m x.id) 0 x), hmemb _ (List.mem_append_right _ (hto 0 hpos x hx rfl)), by rw [hgid]; exact hid0 x, hgp0 _ (hid0 x)⟩
  have hcop : ∀ y ∈ m.nodes, y.id ∈ belowL m x.id → ∃ z ∈ placeN (m.nodes ++ C) m.next p role q, z.id = m.next + idxI (ksL m x.id) y.id ∧ z.parent = m.next + idxI (ksL m x.id) y.parent := fun y hy hb => by
    obtain ⟨j, hj, h0, ej, e5⟩ := idx_below h hx hb
    refine ⟨g (copyN m (ksL m x.id) j y), hmemb _ (List.mem_append_right _ (hto j hj y hy ej.symm)), ?_, ?_⟩
    · rw [hgid, e5]; rfl
    · rw [hgpar _ (hidi j y h0)]
      show (if j = 0 then (0 : Int) else _) = _
      rw [if_neg h0]
  have hii : ∀ i, IdAt ⟨m.next + (ksL m x.id).length, placeN (m.nodes ++ C) m.next p role q⟩ i := by
    refine idAt_congr (m := ⟨m.next + (ksL m x.id).length, m.nodes ++ C⟩) (idAt_pair (fun y hy => ?_) (List.pairwise_iff_getElem.2 fun i j hi hj hij => hsrt.1 i j hi hj hij)) rfl (placeN_ids _ _ _ _ _)
    rcases List.mem_append.1 hy with hy | hy
    · have := hlt y hy; omega
    · obtain ⟨i, hi, y0, _, _, rfl⟩ := hfrom y hy
      show 1 ≤ m.next + (i : Int) ∧ m.next + (i : Int) < _
      omega
  refine ⟨⟨⟨by show (1 : Int) ≤ m.next + _; omega, by show m.next + _ ≤ (1048577 : Int); omega, by show (placeN _ _ _ _ _).length ≤ _; rw [hplen]; exact hlen⟩, hii⟩, fun y hy => ?_, fun y hy k hk => ?_, fun y hy => ?_, fun y hy => ?_⟩
  · obtain ⟨z, hz, rfl⟩ := List.mem_map.1 (show y ∈ placeN (m.nodes ++ C) m.next p role q from hy)
    rcases List.mem_append.1 hz with hz | hz
    · obtain ⟨a1, a2, a3, a4, a5, a6⟩ := h.2.1 z hz
      have c1 : z.id ≠ m.next := by have := hlt z hz; omega
      have a6' : RefsOK (m.next + (ksL m x.id).length) z.refs := refsOK_mono a6 (by omega)
      rw [if_neg c1]
      by_cases c2 : z.id = p
      · rw [if_pos c2]
        refine ⟨a1, a2, a3, ?_, a5, a6'⟩
        show (insAt z.kids q m.next).length ≤ (placeN _ _ _ _ _).length
        rw [hplen, insAt_length]
        omega
      · rw [if_neg c2]
        refine ⟨a1, a2, a3, ?_, a5, a6'⟩
        show z.kids.length ≤ (placeN _ _ _ _ _).length
        rw [hplen]; omega
    · obtain ⟨i, hi, y, hyn, ey, rfl⟩ := hfrom z hz
      obtain ⟨a1, a2, a3, a4, a5, a6⟩ := h.2.1 y hyn
      have hkl : (copyN m (ksL m x.id) i y).kids.length ≤ (placeN (m.nodes ++ C) m.next p role q).length := by
        show (y.kids.map _).length ≤ _
        rw [hplen, List.length_map]; omega
      have hrf : RefsOK (m.next + (ksL m x.id).length) (copyN m (ksL m x.id) i y).refs := refs_copy a6 hn1
      by_cases h0 : i = 0
      · subst h0
        rw [if_pos (hid0 y)]
        have hr0 : p = 0 → role.size = 0 := fun hp => by subst hp; rw [goalE_root] at hg; exact rootE_none hg
        refine ⟨a1, ⟨hr0, fun hs => ?_⟩, fun hs => hw (fun e => hs (hr0 e)), hkl, a5, hrf⟩
        by_cases hp : p = 0
        · exact hp
        · exact absurd hs (word_some (hw hp))
      · rw [if_neg (hidi i y h0), if_neg (by show m.next + (i : Int) ≠ p; omega)]
        have hpk := ks_parent h.tree hx hyn (by rw [ey]; exact below_at hi h0)
        have hp0 : y.parent ≠ 0 := fun e => by
          obtain ⟨y1, hy1, e1⟩ := ks_node h.tree hx hpk
          have := hlt y1 hy1
          omega
        have hps := (idx_lt hpk).1
        refine ⟨a1, ⟨fun e => ?_, fun e => absurd (a2.2 e) hp0⟩, a3, hkl, a5, hrf⟩
        have e : (if i = 0 then (0 : Int) else m.next + idxI (ksL m x.id) y.parent) = 0 := e
        rw [if_neg h0] at e
        omega
  · obtain ⟨z, hz, rfl⟩ := List.mem_map.1 (show y ∈ placeN (m.nodes ++ C) m.next p role q from hy)
    rcases List.mem_append.1 hz with hz | hz
    · have c1 : z.id ≠ m.next := by have := hlt z hz; omega
      have old : ∀ k ∈ z.kids, KidAt ⟨m.next + (ksL m x.id).length, placeN (m.nodes ++ C) m.next p role q⟩ z.id k := fun k hk => by
        obtain ⟨w, hw1, f1, f2⟩ := h.2.2.1 z hz k hk
        obtain ⟨y', hy', f3, f4⟩ := hlike w hw1
        exact ⟨y', hy', f3.trans f1, f4.trans f2⟩
      rw [if_neg c1] at hk ⊢
      by_cases c2 : z.id = p
      · rw [if_pos c2] at hk ⊢
        rcases insAt_mem hk with e | e
        · obtain ⟨y', hy', f3, f4⟩ := hfirst
          exact ⟨y', hy', by rw [e]; exact f3, by rw [f4]; exact c2.symm⟩
        · exact old k e
      · rw [if_neg c2] at hk ⊢; exact old k hk
    · obtain ⟨i, hi, y, hyn, ey, rfl⟩ := hfrom z hz
      have key : ∀ k ∈ y.kids.map (fun k => m.next + idxI (ksL m x.id) k), KidAt ⟨m.next + (ksL m x.id).length, placeN (m.nodes ++ C) m.next p role q⟩ (m.next + (i : Int)) k := fun k hk => by
        obtain ⟨c, hc, rfl⟩ := List.mem_map.1 hk
        obtain ⟨w, hw1, rfl, f2, _⟩ := h.tree.kid hyn hc
        obtain ⟨z', hz', g1, g2⟩ := hcop w hw1 (ks_kids h.tree hx hyn (by rw [ey]; exact List.getElem_mem hi) hc)
        exact ⟨z', hz', g1, by rw [g2, f2, ey, idx_at h hx hi]⟩
      by_cases h0 : i = 0
      · subst h0
        rw [if_pos (hid0 y)] at hk ⊢
        exact key k hk
      · rw [if_neg (hidi i y h0), if_neg (by show m.next + (i : Int) ≠ p; omega)] at hk ⊢
        exact key k hk
  · obtain ⟨z, hz, rfl⟩ := List.mem_map.1 (show y ∈ placeN (m.nodes ++ C) m.next p role q from hy)
    have hold : ∀ k, k ≤ m.next → cnt C k = 0 := fun k hk => cnt_zero fun y hy hky => by have := hnk y hy k hky; omega
    have hnew : ∀ k, m.next ≤ k → cnt m.nodes k = 0 := fun k hk => cnt_zero fun y hy hky => by
      obtain ⟨w, hw1, e, _⟩ := h.2.2.1 y hy k hky
      have := hlt w hw1
      omega
    show ((g z).parent = 0 → cnt (placeN (m.nodes ++ C) m.next p role q) (g z).id = 0) ∧ ((g z).parent ≠ 0 → cnt (placeN (m.nodes ++ C) m.next p role q) (g z).id = 1)
    rw [hgid z, cnt_place (m.nodes ++ C) role q hpn z.id, cnt_append]
    rcases List.mem_append.1 hz with hz | hz
    · have h1 := hlt z hz
      rw [hold z.id (by omega), if_neg (by omega), hgpar z (by omega)]
      exact h.2.2.2.1 z hz
    · obtain ⟨i, hi, y, hyn, ey, rfl⟩ := hfrom z hz
      by_cases h0 : i = 0
      · subst h0
        rw [hgp0 _ (hid0 y), hid0 y, hold _ (Int.le_refl _), hnew _ (Int.le_refl _), if_pos rfl]
        refine ⟨fun hp => ?_, fun hp => ?_⟩
        · rw [no_id (fun y2 hy2 e => by
            obtain ⟨j, hj, rfl⟩ := List.getElem_of_mem hy2
            have := (hsrt.2 j hj).1
            omega)]
        · obtain ⟨y0, hy0, e0⟩ := hpy hp
          rw [← e0, one_id hsrt (List.mem_append_left _ hy0)]
      · have hne1 := hidi i y h0
        have hpk := ks_parent h.tree hx hyn (by rw [ey]; exact below_at hi h0)
        have hp0 : y.parent ≠ 0 := fun e => by
          obtain ⟨y1, hy1, e1⟩ := ks_node h.tree hx hpk
          have := hlt y1 hy1
          omega
        have hps := (idx_lt hpk).1
        rw [hgpar _ hne1, if_neg (fun e => hne1 e.symm), hnew _ (by show m.next ≤ m.next + (i : Int); omega)]
        have hc1 : cnt C (copyN m (ksL m x.id) i y).id = 1 := by
          have a := List.nodup_iff_count.1 hflat (copyN m (ksL m x.id) i y).id
          obtain ⟨j, hj, ej⟩ := List.getElem_of_mem hpk
          obtain ⟨w, hw1, f1, f2⟩ := hung h hyn hp0
          have b0 : (copyN m (ksL m x.id) i y).id ∈ (copyN m (ksL m x.id) j w).kids := (List.mem_map.2 ⟨y.id, f2, by rw [ey, idx_at h hx hi]; rfl⟩ : (copyN m (ksL m x.id) i y).id ∈ w.kids.map (fun k => m.next + idxI (ksL m x.id) k))
          have b : 0 < (C.flatMap ANode.kids).count (copyN m (ksL m x.id) i y).id := List.count_pos_iff.2 (List.mem_flatMap.2 ⟨_, hto j hj w hw1 (f1.trans ej.symm), b0⟩)
          unfold cnt
          omega
        rw [hc1]
        refine ⟨fun e => ?_, fun _ => rfl⟩
        have e : (if i = 0 then (0 : Int) else m.next + idxI (ksL m x.id) y.parent) = 0 := e
        rw [if_neg h0] at e
        omega
  · obtain ⟨z, hz, rfl⟩ := List.mem_map.1 (show y ∈ placeN (m.nodes ++ C) m.next p role q from hy)
    have old : ∀ {d : Nat} {i : Int}, Dep m d i → Dep ⟨m.next + (ksL m x.id).length, placeN (m.nodes ++ C) m.next p role q⟩ d i := fun hd =>
      dep_aside (S := fun _ => False) (fun w hw1 _ => hlike w hw1) (fun _ _ e => e) hd (fun e => e)
    have : ∃ d', d' ≤ 64 ∧ Dep ⟨m.next + (ksL m x.id).length, placeN (m.nodes ++ C) m.next p role q⟩ d' z.id := by
      rcases List.mem_append.1 hz with hz | hz
      · obtain ⟨d, hd6, hd⟩ := h.tree.dep z hz
        exact ⟨d, hd6, old hd⟩
      · obtain ⟨i, hi, y, hyn, ey, rfl⟩ := hfrom z hz
        obtain ⟨dx, hdx6, hdx⟩ := h.tree.dep x hx
        have hh := height_le h hx
        have hst : ∃ dn, Dep ⟨m.next + (ksL m x.id).length, placeN (m.nodes ++ C) m.next p role q⟩ dn m.next ∧ dn + heightN m x.id ≤ 65 := by
          obtain ⟨y', hy', f3, f4⟩ := hfirst
          by_cases hp : p = 0
          · exact ⟨1, by have g := Dep.root (m := ⟨m.next + (ksL m x.id).length, placeN (m.nodes ++ C) m.next p role q⟩) y' hy' (by rw [f4]; exact hp); rw [f3] at g; exact g, by omega⟩
          · obtain ⟨y0, hy0, e0⟩ := hpy hp
            obtain ⟨dp, _, hdp⟩ := h.tree.dep y0 hy0
            rw [e0] at hdp
            have hb := old hdp
            rw [dN_yes h hdp] at hg
            have h64 := goal_high h.tree.fam hp ⟨y0, hy0, e0⟩ hg
            exact ⟨dp + 1, by have g := Dep.kid (m := ⟨m.next + (ksL m x.id).length, placeN (m.nodes ++ C) m.next p role q⟩) dp y' hy' (by rw [f4]; exact hp) (by rw [f4]; exact hb); rw [f3] at g; exact g, by omega⟩
        obtain ⟨dn, hdn, hdn6⟩ := hst
        have hin : y.id ∈ ksL m x.id := by rw [ey]; exact List.getElem_mem hi
        obtain ⟨e, g1, g2⟩ := dep_copied h hx hdx hdn hcop y.id hin
        have e8 : (copyN m (ksL m x.id) i y).id = m.next + idxI (ksL m x.id) y.id := by rw [ey, idx_at h hx hi]; rfl
        refine ⟨dn + e, ?_, by rw [e8]; exact g2⟩
        have h3 : e + 1 ≤ heightN m x.id := by
          unfold heightN
          rw [dN_yes h hdx]
          rcases List.mem_cons.1 hin with e9 | e9
          · rw [e9] at g1
            have := g1.uniq h.1.2 hdx
            omega
          · have := most_ge (m := m) (d := dx) e9
            rw [dN_yes h g1] at this
            omega
        omega
    obtain ⟨d', hd'6, hd'⟩ := this
    refine up_of_dep hii 64 d' _ hy ?_ hd'6
    show Dep _ d' (g z).id
    rw [hgid]; exact hd'
end Go.Proofs.Ytmafhaadcjgcbaa
end
