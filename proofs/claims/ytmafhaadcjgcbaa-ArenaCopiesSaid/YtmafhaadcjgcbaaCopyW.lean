import Derived.Test.YtmafhaadcjgcbaaCheckCp
set_option linter.unusedSimpArgs false
set_option linter.unusedVariables false
/- a copy is what it was made of, and taken away again leaves what was, in plain Lean -/
namespace Go.Proofs.Ytmafhaadcjgcbaa
open Go Go.RowKit

section
variable {m : AModel} {id p a : Int} {role : ByteArray} (hE : copyE m id p role a = 0)
include hE
theorem copy_plt : p < m.next := by
  obtain ⟨h, _, _, hpy, _⟩ := copyE_zero hE
  have hlt := ids_in h.1.2
  have := h.1.1.1
  by_cases hp : p = 0
  · omega
  · obtain ⟨y, hy, e2⟩ := hpy hp
    have := hlt y hy
    omega
/-- the node that the i-th copy is -/
theorem copy_node {i : Nat} (hi : i < (ksL m id).length) : ∃ y ∈ m.nodes, y.id = (ksL m id)[i] ∧ (if i = 0 then { copyN m (ksL m id) 0 y with parent := p, role := role } else copyN m (ksL m id) i y : ANode) ∈ copyL m id p role a := by
  have hpl := copy_plt hE
  obtain ⟨h, _, ⟨x, hx, rfl, _⟩, _⟩ := copyE_zero hE
  obtain ⟨y, hy, ey⟩ := ks_node h.tree hx (List.getElem_mem hi)
  refine ⟨y, hy, ey, ?_⟩
  have hc := copy_to h hi hy ey
  unfold copyL placeN
  refine List.mem_map.2 ⟨_, List.mem_append_right _ hc, ?_⟩
  by_cases h0 : i = 0
  · subst h0
    rw [if_pos (by show m.next + ((0 : Nat) : Int) = m.next; omega), if_pos rfl]
  · rw [if_neg (by show m.next + (i : Int) ≠ m.next; omega), if_neg (by show m.next + (i : Int) ≠ p; omega), if_neg h0]
/-- what stands below the copy -/
theorem copy_below : belowL ⟨m.next + (ksL m id).length, copyL m id p role a⟩ m.next = (belowL m id).map fun k => m.next + idxI (ksL m id) k := by
  have hX := copy_check hE
  have hnode := fun (i : Nat) (hi : i < (ksL m id).length) => copy_node hE hi
  obtain ⟨h, _, ⟨x, hx, rfl, _⟩, _⟩ := copyE_zero hE
  have key : ∀ z ∈ m.nodes, z.id ∈ ksL m x.id → belowL ⟨m.next + (ksL m x.id).length, copyL m x.id p role a⟩ (m.next + idxI (ksL m x.id) z.id) = (belowL m z.id).map fun k => m.next + idxI (ksL m x.id) k := by
    refine h.tree.induct fun z hz ih hin => ?_
    obtain ⟨i, hi, ei⟩ := List.getElem_of_mem hin
    obtain ⟨y, hy, ey, hmem⟩ := hnode i hi
    have e1 : y = z := node_inj h.1.2 hy hz (ey.trans ei)
    subst e1
    have eidx : idxI (ksL m x.id) y.id = (i : Int) := by rw [ey]; exact idx_at h hx hi
    obtain ⟨zc, hzc⟩ : ∃ zc : ANode, zc = (if i = 0 then { copyN m (ksL m x.id) 0 y with parent := p, role := role } else copyN m (ksL m x.id) i y) := ⟨_, rfl⟩
    rw [← hzc] at hmem
    have hid : zc.id = m.next + (i : Int) := by
      rw [hzc]
      by_cases h0 : i = 0
      · subst h0; rw [if_pos rfl]; rfl
      · rw [if_neg h0]; rfl
    have hks : zc.kids = y.kids.map fun k => m.next + idxI (ksL m x.id) k := by
      rw [hzc]
      by_cases h0 : i = 0
      · subst h0; rw [if_pos rfl]; rfl
      · rw [if_neg h0]; rfl
    have hb := hX.tree.below_eq (x := zc) hmem
    rw [hid] at hb
    rw [eidx, hb, hks, h.tree.below_eq hz, List.flatMap_map, List.map_flatMap]
    rw [List.flatMap_def, List.flatMap_def]
    congr 1
    apply List.map_congr_left
    intro k hk
    obtain ⟨w, hw, rfl, _⟩ := h.tree.kid hz hk
    have hwb := ks_kids h.tree hx hz hin hk
    rw [List.map_cons, ih w hw hk (List.mem_cons_of_mem _ hwb)]
  have h0 := key x hx (List.mem_cons_self ..)
  rw [idx_first h hx, Int.add_zero] at h0
  exact h0
theorem copy_ks {i : Nat} (hi : i < (ksL m id).length) : ∃ hi' : i < (ksL ⟨m.next + (ksL m id).length, copyL m id p role a⟩ m.next).length, (ksL ⟨m.next + (ksL m id).length, copyL m id p role a⟩ m.next)[i] = m.next + (i : Int) := by
  have hb := copy_below hE
  obtain ⟨h, _, ⟨x, hx, rfl, _⟩, _⟩ := copyE_zero hE
  have e : ksL ⟨m.next + (ksL m x.id).length, copyL m x.id p role a⟩ m.next = (ksL m x.id).map fun k => m.next + idxI (ksL m x.id) k := by
    show m.next :: belowL _ m.next = _
    rw [hb]
    show _ = (m.next + idxI (ksL m x.id) x.id) :: _
    rw [idx_first h hx, Int.add_zero]
  refine ⟨by rw [e, List.length_map]; exact hi, ?_⟩
  simp only [e, List.getElem_map, idx_at h hx hi]
theorem copy_kslen : (ksL ⟨m.next + (ksL m id).length, copyL m id p role a⟩ m.next).length = (ksL m id).length := by
  show (m.next :: belowL _ m.next).length = (id :: belowL m id).length
  rw [copy_below hE]
  simp
/-- a copy taken away again -/
theorem copy_removed : removeE ⟨m.next + (ksL m id).length, copyL m id p role a⟩ m.next = 0 ∧ removeL ⟨m.next + (ksL m id).length, copyL m id p role a⟩ m.next = m.nodes := by
  have hX := copy_check hE
  have hb := copy_below hE
  have hpl := copy_plt hE
  obtain ⟨yf, hyf, eyf, hf⟩ := copy_node hE (i := 0) (Nat.succ_pos _)
  rw [if_pos rfl] at hf
  obtain ⟨f, hfd⟩ : ∃ f : ANode, f = { copyN m (ksL m id) 0 yf with parent := p, role := role } := ⟨_, rfl⟩
  rw [← hfd] at hf
  have hfi : f.id = m.next := by rw [hfd]; show m.next + ((0 : Nat) : Int) = m.next; omega
  have hfp : f.parent = p := by rw [hfd]
  have hno : nodeOf ⟨m.next + (ksL m id).length, copyL m id p role a⟩ m.next = f := by rw [← hfi]; exact hX.tree.nodeOf hf
  obtain ⟨h, _, ⟨x, hx, rfl, _⟩, _⟩ := copyE_zero hE
  have hlt := ids_in h.1.2
  constructor
  · refine removeE_ok hX ?_
    obtain ⟨j, hj, ej⟩ := List.getElem_of_mem hf
    have := atI_some (id := m.next) hX.1.srt hj (by rw [ej]; exact hfi)
    show ¬ atI (copyL m x.id p role a) m.next < 0
    have h2 : atI (copyL m x.id p role a) m.next = j := this
    rw [h2]; omega
  · unfold removeL
    rw [hno, hb]
    show (unhangN (copyL m x.id p role a) f.parent f.id).filter _ = _
    rw [hfp, hfi]
    obtain ⟨q, hq⟩ : ∃ q, (iOf m p role a).toNat = q := ⟨_, rfl⟩
    unfold copyL unhangN placeN
    rw [hq, List.map_map, List.filter_map, List.filter_append, List.map_append]
    have hin : ∀ i : Nat, i < (ksL m x.id).length → m.next + (i : Int) ∈ (belowL m x.id).map (fun k => m.next + idxI (ksL m x.id) k) ++ [m.next] := fun i hi => by
      by_cases h0 : i = 0
      · subst h0
        exact List.mem_append_right _ (List.mem_singleton.2 (by omega))
      · exact List.mem_append_left _ (List.mem_map.2 ⟨_, below_at hi h0, by rw [idx_at h hx hi]⟩)
    have hout : ∀ k ∈ (belowL m x.id).map (fun k => m.next + idxI (ksL m x.id) k) ++ [m.next], m.next ≤ k := fun k hk => by
      rcases List.mem_append.1 hk with hk | hk
      · obtain ⟨c, hc, rfl⟩ := List.mem_map.1 hk
        have := (idx_lt (ks := ksL m x.id) (List.mem_cons_of_mem _ hc)).1
        omega
      · rw [List.mem_singleton.1 hk]; exact Int.le_refl _
    rw [List.filter_eq_self.2 (fun z hz => ?_), List.filter_eq_nil_iff.2 (fun z hz => ?_), List.map_nil, List.append_nil]
    · conv => rhs; rw [← List.map_id m.nodes]
      apply List.map_congr_left
      intro z hz
      have h1 := hlt z hz
      show (if _ then _ else _ : ANode) = z
      simp only [Function.comp]
      rw [if_neg (show ¬ z.id = m.next by omega)]
      by_cases hzp : z.id = p
      · rw [if_pos hzp, if_pos hzp]
        have hk : keepQ (fun k => k == m.next) (insAt z.kids q m.next) = z.kids := by
          have hne : ∀ k ∈ z.kids, (!(k == m.next)) = true := fun k hk => by
            obtain ⟨w, hw, e, _⟩ := h.tree.kid hz hk
            have := hlt w hw
            simp; omega
          unfold keepQ insAt
          rw [List.filter_append, List.filter_cons_of_neg (by simp), ← List.filter_append, List.take_append_drop]
          exact List.filter_eq_self.2 hne
        show ({ z with kids := keepQ _ (insAt z.kids q m.next) } : ANode) = z
        rw [hk]
      · rw [if_neg hzp, if_neg hzp]
    · obtain ⟨i, hi, y, hy, ey, rfl⟩ := copy_from h hx hz
      have e : ∀ u : ANode, u.id = m.next + (i : Int) → ¬ (!decide (u.id ∈ (belowL m x.id).map (fun k => m.next + idxI (ksL m x.id) k) ++ [m.next])) = true := fun u hu => by
        rw [hu, decide_eq_true (hin i hi)]; simp
      refine e _ ?_
      simp only [Function.comp]
      split <;> split <;> first | rfl | (split <;> rfl)
    · have h1 := hlt z hz
      have e : ∀ y : ANode, y.id = z.id → (!decide (y.id ∈ (belowL m x.id).map (fun k => m.next + idxI (ksL m x.id) k) ++ [m.next])) = true := fun y hy => by
        rw [hy, decide_eq_false (fun hk => by have := hout _ hk; omega)]; rfl
      refine e _ ?_
      simp only [Function.comp]
      split <;> split <;> first | rfl | (split <;> rfl)
end
end Go.Proofs.Ytmafhaadcjgcbaa
