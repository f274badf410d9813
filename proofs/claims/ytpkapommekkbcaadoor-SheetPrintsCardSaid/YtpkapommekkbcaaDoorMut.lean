import Derived.Test.YtpkapommekkbcaaDoorADataA
import Derived.Test.YtpkapommekkbcaaDoorAOwnI
set_option linter.unusedSimpArgs false
set_option linter.unusedVariables false
namespace Go.Proofs.YtpkapommekkbcaaDoor
open Go Go.RowKit

/-! ### Rows of the call's own, kept, and written in -/
section
variable {w w' : World} {base base' : Nat} {e : TypeId} {size : Nat} {v : Value} {n : Nat} {xs : List Value}
theorem own_keep (h : w.ownsRow base e size v n xs) (hb : ∀ b, v.ownBlock = some b → w'.heap[b]? = w.heap[b]?) : w'.ownsRow base e size v n xs := by
  refine ⟨h.1, ?_⟩
  rcases h.2 with h0 | ⟨g, cap, cur, e0, hbg, hh, h3⟩
  · exact .inl h0
  · exact .inr ⟨g, cap, cur, e0, hbg, (hb g (by rw [e0]; rfl)).trans hh, h3⟩
theorem own_weaken (h : w.ownsRow base e size v n xs) (hb : base' ≤ base) : w.ownsRow base' e size v n xs := by
  refine ⟨h.1, ?_⟩
  rcases h.2 with h0 | ⟨g, cap, cur, e0, hbg, h3⟩
  · exact .inl h0
  · exact .inr ⟨g, cap, cur, e0, by omega, h3⟩
theorem own_frozen {g cap : Nat} (h : w.ownsRow base e size (.slice (some ⟨g, 0, none⟩) n cap) n xs) (i : Nat) : w.frozen? ⟨g, i, none⟩ = false := by
  rcases h.2 with ⟨e0, _⟩ | ⟨g', cap', cur, e0, hbg, hh, _⟩
  · cases e0
  · injection e0 with e1
    injection e1 with e1
    injection e1 with e1
    subst e1
    exact Blk.frozen (w := w) (g := g) (t := e) (cs := cur) hh i
theorem own_cell {g cap : Nat} (h : w.ownsRow base e size (.slice (some ⟨g, 0, none⟩) n cap) n xs) (i : Nat) (hi : i < n * size) : w.cell? ⟨g, i, none⟩ = xs[i]? := by
  rcases h.2 with ⟨e0, _⟩ | ⟨g', cap', cur, e0, hbg, hh, hnc, hcm, hsz, ht⟩
  · cases e0
  · injection e0 with e1
    injection e1 with e1
    injection e1 with e1
    subst e1
    rw [Blk.cell (w := w) (g := g) (t := e) (cs := cur) hh i, ← ht, List.getElem?_take_of_lt hi]
    simp
end
/-! ### A model of the call's own -/
/-- a node, and where its lists lie -/
structure LN where
  n : ANode
  p : Value
  k : Value
  r : Value
def LN.cells (x : LN) : List Value := nodeCellsA x.n x.p x.k x.r
theorem LN.cells_len : ∀ x : LN, x.cells.length = 7 := fun _ => rfl
def LN.blocks (x : LN) : List (Option Nat) := [x.p.ownBlock, x.k.ownBlock, x.r.ownBlock]
structure OwnL (w : World) (base : Nat) (x : LN) : Prop where
  p : w.ownsRow base 57 2 x.p x.n.props.length (x.n.props.flatMap propCells)
  k : OwnI w base x.k x.n.kids
  r : w.ownsRow base 60 2 x.r x.n.refs.length (x.n.refs.flatMap refCells)
def allBlocks (l : List LN) : List (Option Nat) := l.flatMap LN.blocks
structure OwnM (w : World) (base : Nat) (v : Value) (l : List LN) : Prop where
  row : w.ownsRow base 37 7 v l.length (l.flatMap LN.cells)
  lists : ∀ x ∈ l, OwnL w base x
  dis : ∀ b, (v.ownBlock :: allBlocks l).count (some b) ≤ 1
theorem cnt3 {o1 o2 o3 : Option Nat} (h12 : ∀ b, o1 = some b → o2 ≠ some b) (h13 : ∀ b, o1 = some b → o3 ≠ some b) (h23 : ∀ b, o2 = some b → o3 ≠ some b) : ∀ b, [o1, o2, o3].count (some b) ≤ 1 := by
  intro b
  have a := h12 b; have c := h13 b; have d := h23 b
  simp only [List.count_cons, List.count_nil, beq_iff_eq]
  by_cases e1 : o1 = some b
  · simp [e1, a e1, c e1]
  · by_cases e2 : o2 = some b
    · simp [e1, e2, d e2]
    · by_cases e3 : o3 = some b <;> simp [e1, e2, e3]
theorem mem_all {l : List LN} {x : LN} (hx : x ∈ l) {o : Option Nat} (ho : o ∈ x.blocks) : o ∈ allBlocks l := List.mem_flatMap.2 ⟨x, hx, ho⟩
section
variable {w w' : World} {base base' : Nat} {v : Value} {l : List LN} {F : Nat → Prop}
theorem OwnL.keep {x : LN} (h : OwnL w base x) (hb : ∀ b, some b ∈ x.blocks → w'.heap[b]? = w.heap[b]?) : OwnL w' base x :=
  ⟨own_keep h.p fun b e => hb b (by simp [LN.blocks, e]), own_keep h.k fun b e => hb b (by simp [LN.blocks, e]), own_keep h.r fun b e => hb b (by simp [LN.blocks, e])⟩
theorem OwnL.weaken {x : LN} (h : OwnL w base x) (hb : base' ≤ base) : OwnL w base' x := ⟨own_weaken h.p hb, h.k.weaken hb, own_weaken h.r hb⟩
theorem OwnL.lt {x : LN} (h : OwnL w base x) : ∀ b, some b ∈ x.blocks → base ≤ b ∧ b < w.heap.size := by
  intro b hb
  simp only [LN.blocks, List.mem_cons, List.not_mem_nil, or_false] at hb
  rcases hb with hb | hb | hb
  · exact h.p.lt b hb.symm
  · exact h.k.lt b hb.symm
  · exact h.r.lt b hb.symm
theorem OwnM.weaken (h : OwnM w base v l) (hb : base' ≤ base) : OwnM w base' v l := ⟨own_weaken h.row hb, fun x hx => (h.lists x hx).weaken hb, h.dis⟩
theorem OwnM.lt (h : OwnM w base v l) : ∀ b, some b ∈ (v.ownBlock :: allBlocks l) → base ≤ b ∧ b < w.heap.size := by
  intro b hb
  rcases List.mem_cons.1 hb with hb | hb
  · exact h.row.lt b hb.symm
  · obtain ⟨x, hx, hb⟩ := List.mem_flatMap.1 hb
    exact (h.lists x hx).lt b hb
theorem OwnM.keep (h : OwnM w base v l) (hb : ∀ b, base ≤ b → b < w.heap.size → w'.heap[b]? = w.heap[b]?) : OwnM w' base v l :=
  ⟨own_keep h.row fun b e => hb b (h.row.lt b e).1 (h.row.lt b e).2, fun x hx => (h.lists x hx).keep fun b e => hb b ((h.lists x hx).lt b e).1 ((h.lists x hx).lt b e).2, h.dis⟩
theorem OwnM.below (h : OwnM w base v l) (hb : Below w.heap.size w w') : OwnM w' base v l := h.keep fun b _ h2 => hb.block b h2
theorem OwnM.nil (w : World) (base : Nat) : OwnM w base (.slice none 0 0) [] := ⟨World.ownsRow_nil _ _ _ _, fun _ h => by simp at h, fun b => by simp [allBlocks, Value.ownBlock]⟩
/-- what the call owns reads as a row of nodes -/
theorem OwnM.isRow (h : OwnM w base v l) (hF : ∀ b, base ≤ b → b < w.heap.size → F b) : IsRow 7 ENode w F v (l.map LN.n) := by
  obtain ⟨A, c, e, h1, h2, h3⟩ := IsRow.of_own (F := F) LN.cells_len h.row (own_at h.row hF)
  refine ⟨A, c, by simpa using e, by simpa using h1, h2, fun hn => h3.1 (by simpa using hn), fun i hi => ?_⟩
  have hi' : i < l.length := by simpa using hi
  obtain ⟨cs, hl, hx, hc⟩ := h3.2 i hi'
  refine ⟨cs, hl, ?_, hc⟩
  have ho := h.lists l[i] (List.getElem_mem hi')
  rw [List.getElem_map]
  unfold EFlat at hx
  subst hx
  exact ⟨l[i].p, l[i].k, l[i].r, rfl, IsRow.of_own propCells_len ho.p (own_at ho.p hF), ho.k.isRow hF, IsRow.of_own refCells_len ho.r (own_at ho.r hF)⟩
end
end Go.Proofs.YtpkapommekkbcaaDoor
