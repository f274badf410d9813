import Derived.Test.YtmafhaadcjgcbaaEditP
import Derived.Test.YtmafhaadcjgcbaaCopyP
set_option linter.unusedSimpArgs false
set_option linter.unusedVariables false
/- a model stays right behind a move, in plain Lean -/
namespace Go.Proofs.Ytmafhaadcjgcbaa
open Go Go.RowKit

/-! ### how often a number is a kid, behind an edit -/
theorem cnt_nil (k : Int) : cnt [] k = 0 := rfl
theorem cnt_map {l : List ANode} {g : ANode → ANode} {k : Int} (h : ∀ z ∈ l, (g z).kids.count k = z.kids.count k) : cnt (l.map g) k = cnt l k := by
  induction l with
  | nil => rfl
  | cons z r ih => rw [List.map_cons, cnt_cons, cnt_cons, h z (List.mem_cons_self ..), ih (fun y hy => h y (List.mem_cons_of_mem _ hy))]
theorem insAt_count (l : List Int) (q : Nat) (x k : Int) : (insAt l q x).count k = l.count k + if x = k then 1 else 0 := by
  unfold insAt
  rw [List.count_append, List.count_cons]
  have := congrArg (List.count k) (List.take_append_drop q l)
  rw [List.count_append] at this
  simp only [beq_iff_eq]
  omega
theorem cnt_place (ns : List ANode) {id p : Int} (role : ByteArray) (q : Nat) (hne : p ≠ id) (k : Int) : cnt (placeN ns id p role q) k = cnt ns k + if id = k then (ns.filter fun z => z.id == p).length else 0 := by
  unfold placeN
  induction ns with
  | nil => simp [cnt_nil]
  | cons z r ih =>
    rw [List.map_cons, cnt_cons, cnt_cons, ih]
    by_cases h1 : z.id = id
    · have h2 : (z.id == p) = false := beq_eq_false_iff_ne.2 (fun e => hne (e.symm.trans h1))
      rw [if_pos h1, List.filter_cons_of_neg (by rw [h2]; simp)]
      show z.kids.count k + _ = _
      omega
    · rw [if_neg h1]
      by_cases h2 : z.id = p
      · rw [if_pos h2, List.filter_cons_of_pos (by simp [h2]), List.length_cons]
        show (insAt z.kids q id).count k + _ = _
        rw [insAt_count]
        split <;> omega
      · rw [if_neg h2, List.filter_cons_of_neg (by simp [h2])]
        omega
theorem ids_nodup {ns : List ANode} (h : SrtB ns) : (ns.map (·.id)).Nodup := List.pairwise_iff_getElem.2 fun i j hi hj hij e => by
  rw [List.getElem_map, List.getElem_map] at e
  have := srtB_inj h (by simpa using hi) (by simpa using hj) e
  omega
theorem one_id {ns : List ANode} (h : SrtB ns) {z : ANode} (hz : z ∈ ns) : (ns.filter fun y => y.id == z.id).length = 1 := by
  have h1 : (ns.map (·.id)).count z.id = 1 := by
    have a := List.nodup_iff_count.1 (ids_nodup h) z.id
    have b := List.count_pos_iff.2 (List.mem_map_of_mem (f := (·.id)) hz)
    omega
  rw [← h1, List.count, List.countP_map, List.countP_eq_length_filter]
  rfl
theorem no_id {ns : List ANode} {p : Int} (h : ∀ z ∈ ns, z.id ≠ p) : (ns.filter fun y => y.id == p).length = 0 := by
  rw [List.filter_eq_nil_iff.2 (fun z hz => by simp [h z hz])]; rfl
/-! ### depths -/
/-- the same nodes, by number and parent, but below one -/
theorem dep_aside {m b : AModel} {S : Int → Prop} (hg : ∀ z ∈ m.nodes, ¬ S z.id → ∃ y ∈ b.nodes, y.id = z.id ∧ y.parent = z.parent) (hs : ∀ z ∈ m.nodes, S z.parent → S z.id) {d : Nat} {i : Int} (hd : Dep m d i) : ¬ S i → Dep b d i := by
  induction hd with
  | root z hz h0 =>
    intro hn
    obtain ⟨y, hy, e1, e2⟩ := hg z hz hn
    rw [← e1]; exact .root y hy (by rw [e2]; exact h0)
  | kid d z hz hp _ ih =>
    intro hn
    obtain ⟨y, hy, e1, e2⟩ := hg z hz hn
    rw [← e1]
    exact .kid d y hy (by rw [e2]; exact hp) (by rw [e2]; exact ih (fun h => hn (hs z hz h)))

theorem hung {m : AModel} (h : CheckM m) {z : ANode} (hz : z ∈ m.nodes) (hp : z.parent ≠ 0) : ∃ y ∈ m.nodes, y.id = z.parent ∧ z.id ∈ y.kids := by
  have h1 := (h.2.2.2.1 z hz).2 hp
  have h2 : z.id ∈ m.nodes.flatMap ANode.kids := List.count_pos_iff.1 (by unfold cnt at h1; omega)
  obtain ⟨y, hy, hk⟩ := List.mem_flatMap.1 h2
  obtain ⟨w, hw, e1, e2⟩ := h.2.2.1 y hy z.id hk
  have := node_inj h.1.2 hw hz e1
  subst this
  exact ⟨y, hy, e2.symm, hk⟩
/-- what stands at a node or below it -/
def InT (m : AModel) (x : ANode) (i : Int) : Prop := i ∈ ksL m x.id
theorem inT_kid {m : AModel} (h : CheckM m) {x : ANode} (hx : x ∈ m.nodes) {z : ANode} (hz : z ∈ m.nodes) (hp : InT m x z.parent) : InT m x z.id := by
  have h0 : z.parent ≠ 0 := fun e => by
    obtain ⟨y, hy, e2⟩ := ks_node h.tree hx hp
    have := id_pos h.1.2 hy
    omega
  obtain ⟨y, hy, e, hk⟩ := hung h hz h0
  exact List.mem_cons_of_mem _ (ks_kids h.tree hx hy (by rw [e]; exact hp) hk)
theorem placeN_ids (ns : List ANode) (id p : Int) (role : ByteArray) (q : Nat) : (placeN ns id p role q).map (·.id) = ns.map (·.id) := by
  unfold placeN
  rw [List.map_map]
  apply List.map_congr_left
  intro y _
  show (if y.id = id then _ else _ : ANode).id = y.id
  split
  · rfl
  · split <;> rfl
theorem rootE_none {role : ByteArray} {a : Int} (h : rootE role a = 0) : role.size = 0 := by
  unfold rootE at h
  split at h
  · exact ‹_ ∧ _›.1
  · cases h
open Classical in
theorem moveE_zero {m : AModel} {id p a : Int} {role : ByteArray} (h : moveE m id p role a = 0) : CheckM m ∧ (p ≠ 0 → wordA role = true) ∧ (∃ x ∈ m.nodes, x.id = id ∧ nodeOf m id = x) ∧ (p ≠ 0 → ∃ y ∈ m.nodes, y.id = p) ∧ p ≠ id ∧ p ∉ belowL m id ∧ goalE (mu m (nodeOf m id)) p role a (dN m p) (heightN m id : Nat) = 0 := by
  by_cases hc : CheckM m
  · by_cases hw : p ≠ 0 → wordA role = true
    · by_cases hn : atI m.nodes id < 0 ∨ (p ≠ 0 ∧ atI m.nodes p < 0)
      · rw [moveE_node hc hw hn] at h; cases h
      · by_cases hl : p = id ∨ p ∈ belowL m id
        · rw [moveE_loop hc hw hn hl] at h; cases h
        · rw [moveE_goal hc hw hn hl] at h
          have find : ∀ k, ¬ atI m.nodes k < 0 → ∃ y ∈ m.nodes, y.id = k := fun k hk => by
            rcases atI_cases m.nodes k with ⟨j, hj, hj1, hj2⟩ | ⟨hj1, hj2⟩
            · exact ⟨m.nodes[j], List.getElem_mem hj, hj1⟩
            · exact absurd (by rw [hj2]; omega) hk
          obtain ⟨x, hx, e⟩ := find id (fun e => hn (.inl e))
          exact ⟨hc, hw, ⟨x, hx, e, by rw [← e]; exact hc.tree.nodeOf hx⟩, fun hp => find p (fun e => hn (.inr ⟨hp, e⟩)), fun e => hl (.inl e), fun e => hl (.inr e), h⟩
    · have hp : p ≠ 0 := fun e => hw (fun h => absurd e h)
      have hw2 : wordA role = false := by
        cases e : wordA role with
        | false => rfl
        | true => exact absurd (fun _ => e) hw
      rw [moveE_word hc hp hw2] at h; cases h
  · rw [moveE_check hc] at h; cases h

theorem most_ge {m : AModel} : ∀ {l : List Int} {d : Nat} {k : Int}, k ∈ l → dN m k ≤ mostTo m d l
  | c :: r, d, k, hk => by
    rcases List.mem_cons.1 hk with e | e
    · subst e; exact Nat.le_trans (Nat.le_max_right d (dN m k)) (mostTo_ge m r (max d (dN m k)))
    · exact most_ge (l := r) (d := max d (dN m c)) e
/-- a subtree moved: its nodes stand as deep below the new place as they stood below the old one -/
theorem dep_moved {m b : AModel} (h : CheckM m) {x : ANode} (hx : x ∈ m.nodes) {dx dn : Nat} (hdx : Dep m dx x.id) (hn : Dep b dn x.id) (hg : ∀ z ∈ m.nodes, z.id ≠ x.id → ∃ y ∈ b.nodes, y.id = z.id ∧ y.parent = z.parent) :
    ∀ k ∈ ksL m x.id, ∃ e, Dep m (dx + e) k ∧ Dep b (dn + e) k := by
  have key : ∀ z ∈ m.nodes, z.id ∈ ksL m x.id → (∃ e, Dep m (dx + e) z.id ∧ Dep b (dn + e) z.id) → ∀ k ∈ belowL m z.id, ∃ e, Dep m (dx + e) k ∧ Dep b (dn + e) k := by
    refine h.tree.induct fun z hz ih hin ⟨e, h1, h2⟩ k hk => ?_
    rw [h.tree.below_eq hz] at hk
    obtain ⟨c, hc, hk⟩ := List.mem_flatMap.1 hk
    obtain ⟨y, hy, rfl, e2, e3⟩ := h.tree.kid hz hc
    have hyb : y.id ∈ belowL m x.id := ks_kids h.tree hx hz hin hc
    have hne : y.id ≠ x.id := fun e4 => h.tree.not_below hx (by have h9 := hyb; rw [e4] at h9; exact h9)
    obtain ⟨y', hy', e5, e6⟩ := hg y hy hne
    have g1 : Dep m (dx + (e + 1)) y.id := .kid (dx + e) y hy e3 (by rw [e2]; exact h1)
    have g2 : Dep b (dn + (e + 1)) y.id := by rw [← e5]; exact .kid (dn + e) y' hy' (by rw [e6]; exact e3) (by rw [e6, e2]; exact h2)
    rcases List.mem_cons.1 hk with e7 | e7
    · rw [e7]; exact ⟨e + 1, g1, g2⟩
    · exact ih y hy hc (List.mem_cons_of_mem _ hyb) ⟨e + 1, g1, g2⟩ k e7
  intro k hk
  rcases List.mem_cons.1 hk with e | e
  · rw [e]; exact ⟨0, hdx, hn⟩
  · exact key x hx (List.mem_cons_self ..) ⟨0, hdx, hn⟩ k e

theorem goal_high {m : AModel} (hFm : Fam m) {p : Int} {role : ByteArray} {a : Int} {d high : Int} (hp : p ≠ 0) (hy : ∃ y ∈ m.nodes, y.id = p) (h : goalE m p role a d high = 0) : d + high ≤ 64 := by
  obtain ⟨y, hy, rfl⟩ := hy
  rw [goalE_kid hFm hy hp] at h
  unfold kidE at h
  split at h
  · split at h
    · cases h
    · omega
  · cases h
theorem mu_nodup {m : AModel} (h : CheckM m) {x : ANode} : ∀ y ∈ (mu m x).nodes, y.kids.Nodup := fun y hy => by
  obtain ⟨z, hz, rfl⟩ := List.mem_map.1 hy
  have hn := h.tree.kids_nodup hz
  split
  · exact List.Nodup.sublist List.filter_sublist hn
  · exact hn
theorem mu_cnt {m : AModel} {x : ANode} {k : Int} (hk : k ≠ x.id) : cnt (mu m x).nodes k = cnt m.nodes k := by
  show cnt (unhangN m.nodes x.parent x.id) k = _
  unfold unhangN
  refine cnt_map fun z _ => ?_
  split
  · show (z.kids.filter _).count k = _
    exact List.count_filter (by simpa using hk)
  · rfl
theorem insAt_mem {l : List Int} {q : Nat} {y k : Int} (h : k ∈ insAt l q y) : k = y ∨ k ∈ l := by
  rcases List.mem_append.1 h with h | h
  · exact .inr (List.mem_of_mem_take h)
  · rcases List.mem_cons.1 h with h | h
    · exact .inl h
    · exact .inr (List.mem_of_mem_drop h)
theorem insAt_length (l : List Int) (q : Nat) (y : Int) : (insAt l q y).length = l.length + 1 := by
  unfold insAt
  rw [List.length_append, List.length_cons]
  have := congrArg List.length (List.take_append_drop q l)
  rw [List.length_append] at this
  omega
theorem move_check {m : AModel} {id p a : Int} {role : ByteArray} (hE : moveE m id p role a = 0) : CheckM ⟨m.next, moveL m id p role a⟩ := by
  obtain ⟨h, hw, ⟨x, hx, rfl, hxo⟩, hpy, hne, hnb, hg⟩ := moveE_zero hE
  rw [hxo] at hg
  obtain ⟨q, hq⟩ : ∃ q, (iOf (mu m x) p role a).toNat = q := ⟨_, rfl⟩
  have hL : moveL m x.id p role a = placeN (mu m x).nodes x.id p role q := by unfold moveL; rw [hxo, hq]
  rw [hL]
  have hs1 := mu_srt (x := x) h
  have hids : (placeN (mu m x).nodes x.id p role q).map (·.id) = m.nodes.map (·.id) := (placeN_ids _ _ _ _ _).trans (mu_ids2 m x)
  have hlen : (placeN (mu m x).nodes x.id p role q).length = m.nodes.length := by rw [placeN_len, mu_len]
  have hii := idAt_congr (m' := ⟨m.next, placeN (mu m x).nodes x.id p role q⟩) h.1.2 rfl hids
  -- the nodes: each stems from one
  let g : ANode → ANode := fun z => if z.id = x.id then { z with parent := p, role := role } else if z.id = p then { z with kids := insAt z.kids q x.id } else z
  have himg : ∀ z1 ∈ (mu m x).nodes, g z1 ∈ placeN (mu m x).nodes x.id p role q := fun z1 hz1 => List.mem_map.2 ⟨z1, hz1, rfl⟩
  have hgid : ∀ z1, (g z1).id = z1.id := fun z1 => by show (if _ then _ else _ : ANode).id = _; split; rfl; split <;> rfl
  have hgpar : ∀ z1, z1.id ≠ x.id → (g z1).parent = z1.parent := fun z1 hz => by show (if _ then _ else _ : ANode).parent = _; rw [if_neg hz]; split <;> rfl
  have hlike : ∀ z ∈ m.nodes, z.id ≠ x.id → ∃ y ∈ placeN (mu m x).nodes x.id p role q, y.id = z.id ∧ y.parent = z.parent := fun z hz hzx => by
    obtain ⟨y, hy, e1, e2⟩ := mu_node (x := x) hz
    exact ⟨g y, himg y hy, by rw [hgid, e1], by rw [hgpar y (by rw [e1]; exact hzx), e2]⟩
  have hxl : ∃ y ∈ placeN (mu m x).nodes x.id p role q, y.id = x.id ∧ y.parent = p := by
    obtain ⟨y, hy, e1, e2⟩ := mu_node (x := x) hx
    exact ⟨g y, himg y hy, by rw [hgid, e1], by show (if _ then _ else _ : ANode).parent = _; rw [if_pos e1]⟩
  have hw2 : p ≠ 0 → role.size ≠ 0 := fun hp => word_some (hw hp)
  have hr0 : p = 0 → role.size = 0 := fun hp => by subst hp; rw [goalE_root] at hg; exact rootE_none hg
  have hnk := mu_nokid (x := x) h hx
  refine ⟨⟨⟨h.1.1.1, h.1.1.2.1, by show (placeN _ _ _ _ _).length ≤ _; rw [hlen]; exact h.1.1.2.2⟩, hii⟩, fun y hy => ?_, fun y hy k hk => ?_, fun y hy => ?_, fun y hy => ?_⟩
  · obtain ⟨z1, hz1, rfl⟩ := List.mem_map.1 (show y ∈ placeN (mu m x).nodes x.id p role q from hy)
    obtain ⟨z, hz, e1, e2, e3, e4, e5, e6, hk, hkl, _⟩ := mu_mem hz1
    obtain ⟨a1, a2, a3, a4, a5, a6⟩ := h.2.1 z hz
    by_cases c1 : z1.id = x.id
    · rw [if_pos c1]
      refine ⟨by show wordA z1.concept = true; rw [e4]; exact a1, ⟨hr0, fun hs => ?_⟩, fun hs => hw (fun e => hs (hr0 e)), ?_, by show PropsOK z1.props; rw [e5]; exact a5, by show RefsOK m.next z1.refs; rw [e6]; exact a6⟩
      · by_cases hp : p = 0
        · exact hp
        · exact absurd hs (hw2 hp)
      · show z1.kids.length ≤ (placeN _ _ _ _ _).length; rw [hlen]; omega
    · rw [if_neg c1]
      by_cases c2 : z1.id = p
      · rw [if_pos c2]
        refine ⟨by show wordA z1.concept = true; rw [e4]; exact a1, by show z1.parent = 0 ↔ z1.role.size = 0; rw [e2, e3]; exact a2, by show z1.role.size ≠ 0 → wordA z1.role = true; rw [e3]; exact a3, ?_, by show PropsOK z1.props; rw [e5]; exact a5, by show RefsOK m.next z1.refs; rw [e6]; exact a6⟩
        show (insAt z1.kids q x.id).length ≤ (placeN _ _ _ _ _).length
        rw [hlen, insAt_length]
        have hnd : (x.id :: z1.kids).Nodup := List.nodup_cons.2 ⟨hnk z1 hz1, mu_nodup h z1 hz1⟩
        have := len_le (L := m.nodes.map (·.id)) hnd (fun k hk2 => by
          rcases List.mem_cons.1 hk2 with e | e
          · rw [e]; exact List.mem_map_of_mem hx
          · have := mu_closed (x := x) h z1 hz1 k e
            rw [mu_ids2] at this; exact this)
        simpa using this
      · rw [if_neg c2]
        exact ⟨by rw [e4]; exact a1, by rw [e2, e3]; exact a2, by rw [e3]; exact a3, by show z1.kids.length ≤ (placeN _ _ _ _ _).length; rw [hlen]; omega, by rw [e5]; exact a5, by show RefsOK m.next z1.refs; rw [e6]; exact a6⟩
  · obtain ⟨z1, hz1, rfl⟩ := List.mem_map.1 (show y ∈ placeN (mu m x).nodes x.id p role q from hy)
    obtain ⟨z, hz, e1, _, _, _, _, _, hk1, _, _⟩ := mu_mem hz1
    have old : ∀ k ∈ z1.kids, KidAt ⟨m.next, placeN (mu m x).nodes x.id p role q⟩ z1.id k := fun k hk => by
      obtain ⟨w, hw1, f1, f2⟩ := h.2.2.1 z hz k (hk1 k hk)
      have hkx : k ≠ x.id := fun e => hnk z1 hz1 (by rw [← e]; exact hk)
      obtain ⟨y', hy', f3, f4⟩ := hlike w hw1 (by rw [f1]; exact hkx)
      exact ⟨y', hy', f3.trans f1, by rw [f4, f2, e1]⟩
    by_cases c1 : z1.id = x.id
    · rw [if_pos c1] at hk ⊢; exact old k hk
    · rw [if_neg c1] at hk ⊢
      by_cases c2 : z1.id = p
      · rw [if_pos c2] at hk ⊢
        rcases insAt_mem hk with e | e
        · obtain ⟨y', hy', f3, f4⟩ := hxl
          exact ⟨y', hy', by rw [e]; exact f3, by rw [f4]; exact c2.symm⟩
        · exact old k e
      · rw [if_neg c2] at hk ⊢; exact old k hk
  · obtain ⟨z1, hz1, rfl⟩ := List.mem_map.1 (show y ∈ placeN (mu m x).nodes x.id p role q from hy)
    obtain ⟨z, hz, e1, e2, _⟩ := mu_mem hz1
    have hid := hgid z1
    have hcp := cnt_place (mu m x).nodes role q hne z1.id
    show ((g z1).parent = 0 → cnt (placeN (mu m x).nodes x.id p role q) (g z1).id = 0) ∧ ((g z1).parent ≠ 0 → cnt (placeN (mu m x).nodes x.id p role q) (g z1).id = 1)
    rw [hid, hcp]
    by_cases c1 : z1.id = x.id
    · have hpar : (g z1).parent = p := by show (if _ then _ else _ : ANode).parent = _; rw [if_pos c1]
      rw [hpar, if_pos c1.symm, c1, cnt_zero hnk]
      refine ⟨fun hp => ?_, fun hp => ?_⟩
      · rw [no_id (fun y2 hy2 e => by
          obtain ⟨i, hi, rfl⟩ := List.getElem_of_mem hy2
          have := (hs1.2 i hi).1
          omega)]
      · obtain ⟨y0, hy0, e0⟩ := hpy hp
        obtain ⟨y1, hy1, f1, _⟩ := mu_node (x := x) hy0
        rw [← e0, ← f1, one_id hs1 hy1]
    · rw [hgpar z1 c1, if_neg (fun e => c1 e.symm), mu_cnt c1, e2, e1]
      exact h.2.2.2.1 z hz
  · obtain ⟨z1, hz1, rfl⟩ := List.mem_map.1 (show y ∈ placeN (mu m x).nodes x.id p role q from hy)
    obtain ⟨z, hz, e1, _⟩ := mu_mem hz1
    have hid := hgid z1
    have aside : ∀ {d : Nat} {i : Int}, Dep m d i → ¬ InT m x i → Dep ⟨m.next, placeN (mu m x).nodes x.id p role q⟩ d i := fun hd hn =>
      dep_aside (S := InT m x) (fun w hw1 hn2 => hlike w hw1 (fun e => hn2 (by rw [e]; exact List.mem_cons_self ..))) (fun w hw1 => inT_kid h hx hw1) hd hn
    obtain ⟨d, hd6, hd⟩ := h.tree.dep z hz
    have : ∃ d', d' ≤ 64 ∧ Dep ⟨m.next, placeN (mu m x).nodes x.id p role q⟩ d' z.id := by
      by_cases hin : InT m x z.id
      · obtain ⟨dx, hdx6, hdx⟩ := h.tree.dep x hx
        have hh := height_le h hx
        have hst : ∃ dn, Dep ⟨m.next, placeN (mu m x).nodes x.id p role q⟩ dn x.id ∧ dn + heightN m x.id ≤ 65 := by
          obtain ⟨y', hy', f3, f4⟩ := hxl
          by_cases hp : p = 0
          · exact ⟨1, by have g := Dep.root (m := ⟨m.next, placeN (mu m x).nodes x.id p role q⟩) y' hy' (by rw [f4]; exact hp); rw [f3] at g; exact g, by omega⟩
          · obtain ⟨y0, hy0, e0⟩ := hpy hp
            obtain ⟨dp, _, hdp⟩ := h.tree.dep y0 hy0
            rw [e0] at hdp
            have hb := aside hdp (fun hi => by rcases List.mem_cons.1 hi with e | e; exact hne e; exact hnb e)
            rw [dN_yes h hdp] at hg
            have h64 := goal_high (mu_fam (x := x) h) hp (by obtain ⟨y1, hy1, f1, _⟩ := mu_node (x := x) hy0; exact ⟨y1, hy1, by rw [f1, e0]⟩) hg
            exact ⟨dp + 1, by have g := Dep.kid (m := ⟨m.next, placeN (mu m x).nodes x.id p role q⟩) dp y' hy' (by rw [f4]; exact hp) (by rw [f4]; exact hb); rw [f3] at g; exact g, by omega⟩
        obtain ⟨dn, hdn, hdn6⟩ := hst
        obtain ⟨e, g1, g2⟩ := dep_moved h hx hdx hdn (fun w hw1 hwx => hlike w hw1 hwx) z.id hin
        refine ⟨dn + e, ?_, g2⟩
        have h3 : e + 1 ≤ heightN m x.id := by
          unfold heightN
          rw [dN_yes h hdx]
          rcases List.mem_cons.1 hin with e9 | e9
          · rw [e9] at g1
            have := g1.uniq h.1.2 hdx
            omega
          · have := most_ge (m := m) (d := dx) e9
            rw [dN_yes h g1] at this
            omega
        omega
      · exact ⟨d, hd6, aside hd hin⟩
    obtain ⟨d', hd'6, hd'⟩ := this
    refine up_of_dep hii 64 d' _ hy ?_ hd'6
    show Dep _ d' (g z1).id
    rw [hid, e1]; exact hd'
end Go.Proofs.Ytmafhaadcjgcbaa
