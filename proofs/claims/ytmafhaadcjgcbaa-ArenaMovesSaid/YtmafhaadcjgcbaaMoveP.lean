import Derived.Test.YtmafhaadcjgcbaaDelQ
import Derived.Test.YtmafhaadcjgcbaaGoal
import Derived.Test.YtmafhaadcjgcbaaCopyK
set_option linter.unusedSimpArgs false
set_option linter.unusedVariables false
/- moving nodes, in plain Lean: taken out, put in; lists of a node's own written -/
namespace Go.Proofs.Ytmafhaadcjgcbaa
open Go Go.RowKit

/-- a node is no one's kid any more -/
def unhangN (ns : List ANode) (p id : Int) : List ANode := ns.map fun y => if y.id = p then { y with kids := keepQ (fun k => k == id) y.kids } else y
/-- a node that hangs nowhere is put below another, or among the roots -/
def placeN (ns : List ANode) (id p : Int) (role : ByteArray) (i : Nat) : List ANode := ns.map fun y => if y.id = id then { y with parent := p, role := role } else if y.id = p then { y with kids := insAt y.kids i id } else y
section
variable {ns : List ANode} {p id : Int}
theorem srtB_inj (h : SrtB ns) {i j : Nat} (hi : i < ns.length) (hj : j < ns.length) (e : ns[i].id = ns[j].id) : i = j := h.1.inj hi hj e
theorem unhangN_len (ns : List ANode) (p id : Int) : (unhangN ns p id).length = ns.length := List.length_map _
theorem unhangN_at (i : Nat) (hi : i < ns.length) : (unhangN ns p id)[i]'(by rw [unhangN_len]; exact hi) = if ns[i].id = p then { ns[i] with kids := keepQ (fun k => k == id) ns[i].kids } else ns[i] := List.getElem_map _
theorem unhangN_ids (ns : List ANode) (p id : Int) : (unhangN ns p id).map (·.id) = ns.map (·.id) := by
  unfold unhangN
  rw [List.map_map]
  apply List.map_congr_left
  intro y _
  show (if y.id = p then _ else y : ANode).id = y.id
  by_cases h : y.id = p
  · rw [if_pos h]
  · rw [if_neg h]
theorem unhangN_none (h : ∀ y ∈ ns, y.id ≠ p) : unhangN ns p id = ns := by
  unfold unhangN
  conv => rhs; rw [← List.map_id ns]
  apply List.map_congr_left
  intro y hy
  rw [if_neg (h y hy)]; rfl
theorem unhangN_zero (h : SrtB ns) : unhangN ns 0 id = ns := unhangN_none fun y hy => by
  obtain ⟨i, hi, rfl⟩ := List.getElem_of_mem hy
  have := (h.2 i hi).1; omega
theorem unhangN_set (h : SrtB ns) {j : Nat} (hj : j < ns.length) : ns.set j { ns[j] with kids := keepQ (fun k => k == id) ns[j].kids } = unhangN ns ns[j].id id := by
  apply List.ext_getElem (by rw [List.length_set, unhangN_len])
  intro i h1 h2
  rw [List.length_set] at h1
  rw [unhangN_at i h1]
  by_cases e : i = j
  · subst e
    rw [List.getElem_set_self, if_pos rfl]
  · rw [List.getElem_set_ne (Ne.symm e), if_neg (fun h3 => e (srtB_inj h h1 hj h3))]
theorem unhangN_srt (h : SrtB ns) : SrtB (unhangN ns p id) := srtB_congr h (unhangN_ids ns p id)
theorem placeN_len (ns : List ANode) (id p : Int) (role : ByteArray) (i : Nat) : (placeN ns id p role i).length = ns.length := List.length_map _
theorem placeN_at {role : ByteArray} {q : Nat} (i : Nat) (hi : i < ns.length) : (placeN ns id p role q)[i]'(by rw [placeN_len]; exact hi) = if ns[i].id = id then { ns[i] with parent := p, role := role } else if ns[i].id = p then { ns[i] with kids := insAt ns[i].kids q id } else ns[i] := List.getElem_map _
theorem placeN_root (h : SrtB ns) {j : Nat} (hj : j < ns.length) (role : ByteArray) (q : Nat) : ns.set j { ns[j] with parent := 0, role := role } = placeN ns ns[j].id 0 role q := by
  apply List.ext_getElem (by rw [List.length_set, placeN_len])
  intro i h1 h2
  rw [List.length_set] at h1
  rw [placeN_at i h1]
  by_cases e : i = j
  · subst e
    rw [List.getElem_set_self, if_pos rfl]
  · rw [List.getElem_set_ne (Ne.symm e), if_neg (fun h3 => e (srtB_inj h h1 hj h3)), if_neg (by have := (h.2 i h1).1; omega)]
theorem placeN_kid (h : SrtB ns) {j k : Nat} (hj : j < ns.length) (hk : k < ns.length) (hne : k ≠ j) (role : ByteArray) (q : Nat) : (ns.set j { ns[j] with parent := ns[k].id, role := role }).set k { ns[k] with kids := insAt ns[k].kids q ns[j].id } = placeN ns ns[j].id ns[k].id role q := by
  apply List.ext_getElem (by rw [List.length_set, List.length_set, placeN_len])
  intro i h1 h2
  have h0 : i < ns.length := by simpa using h1
  rw [placeN_at i h0]
  by_cases e : i = k
  · subst e
    rw [List.getElem_set_self, if_neg (fun h3 => hne (srtB_inj h h0 hj h3)), if_pos rfl]
  · rw [List.getElem_set_ne (Ne.symm e)]
    by_cases e2 : i = j
    · subst e2
      rw [List.getElem_set_self, if_pos rfl]
    · rw [List.getElem_set_ne (Ne.symm e2), if_neg (fun h3 => e2 (srtB_inj h h0 hj h3)), if_neg (fun h3 => e (srtB_inj h h0 hk h3))]
end
section
variable {w w' : World} {base g n cap : Nat} {v : Value} {l : List LN}
theorem OwnM.setKids (h : OwnM w base (.slice (some ⟨g, 0, none⟩) n cap) l) {j : Nat} (hj : j < l.length) {Y : LN} (hY : l[j] = Y) (ks : List Int) (new : Value) (hg : w.grownBy w' Y.k.ownBlock) (hat : new.ownBlock = Y.k.ownBlock ∨ new.ownBlock = none ∨ ∃ b, new.ownBlock = some b ∧ w.heap.size ≤ b)
    (hown : OwnI w' base new ks) : OwnM (w'.setCell ⟨g, j * 7 + 5, none⟩ new) base (.slice (some ⟨g, 0, none⟩) n cap) (l.set j ⟨{ Y.n with kids := ks }, Y.p, new, Y.r⟩) := by
  have hYm : Y ∈ l := by rw [← hY]; exact List.getElem_mem hj
  have hc := h.cnt hj
  refine h.setList hj (j := 5) (by omega) _ Y.k new hg (by rw [hY]; simp [LN.blocks]) hat (by rw [hY]; rfl) (fun o => ?_) (fun hk => ?_) (fun b hb e => ?_)
  · rw [hY]; simp only [LN.blocks, List.count_cons, List.count_nil]; omega
  · rw [hY] at hk hc
    have hol := h.lists Y hYm
    refine ⟨own_keep hol.p fun b e => hk b (by simp [LN.blocks, e]) ?_, hown, own_keep hol.r fun b e => hk b (by simp [LN.blocks, e]) ?_⟩
    · intro e2
      have h3 := hc b
      have : 2 ≤ Y.blocks.count (some b) := by simp [LN.blocks, List.count_cons, e, ← e2]
      omega
    · intro e2
      have h3 := hc b
      have : 2 ≤ Y.blocks.count (some b) := by simp [LN.blocks, List.count_cons, e, ← e2]
      omega
  · subst e
    have hrow := h.row_ne hYm (b := b)
    simp only [LN.blocks, List.mem_cons, List.not_mem_nil, or_false] at hb hrow
    rcases hb with hb | hb | hb
    · exact hrow (.inl hb) rfl
    · rcases hat with e | e | ⟨b2, e, hb2⟩
      · exact hrow (.inr (.inl (hb.trans e))) rfl
      · rw [e] at hb; cases hb
      · have hbb : b = b2 := by have := hb.trans e; injection this
        have := h.row.lt b rfl
        omega
    · exact hrow (.inr (.inr hb)) rfl
end
end Go.Proofs.Ytmafhaadcjgcbaa
