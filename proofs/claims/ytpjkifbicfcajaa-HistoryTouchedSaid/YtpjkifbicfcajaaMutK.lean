import Derived.Test.YtpjkifbicfcajaaADataA
import Derived.Test.YtpjkifbicfcajaaAOwnI
set_option linter.unusedSimpArgs false
set_option linter.unusedVariables false
section
namespace Go.Proofs.Ytpjkifbicfcajaa
open Go Go.RowKit

/-! ### Rows of the call's own, kept, and written in -/
section
variable {w w' : World} {base base' : Nat} {e : TypeId} {size : Nat} {v : Value} {n : Nat} {xs : List Value}
theorem own_keep (h : w.ownsRow base e size v n xs) (hb : ∀ b, v.ownBlock = some b → w'.heap[b]? = w.heap[b]?) : w'.ownsRow base e size v n xs := by
  refine ⟨h.1, ?_⟩
  rcases h.2 with h0 | ⟨g, cap, cur, e0, hbg, hh, h3⟩
  · exact .inl h0
  · exact .inr ⟨g, cap, cur, e0, hbg, (hb g (by rw [e0]; rfl)).trans hh, h3⟩
theorem own_weaken (h : w.ownsRow base e size v n xs) (hb : base' ≤ base) : w.ownsRow base' e size v n xs := by
  refine ⟨h.1, ?_⟩
  rcases h.2 with h0 | ⟨g, cap, cur, e0, hbg, h3⟩
  · exact .inl h0
  · exact .inr ⟨g, cap, cur, e0, by omega, h3⟩
/-- one cell of an own row written anew -/
theorem own_set {g cap : Nat} (h : w.ownsRow base e size (.slice (some ⟨g, 0, none⟩) n cap) n xs) {i : Nat} (hi : i < n * size) (u : Value) : (w.setCell ⟨g, i, none⟩ u).ownsRow base e size (.slice (some ⟨g, 0, none⟩) n cap) n (xs.set i u) := by
  refine ⟨by rw [List.length_set]; exact h.1, ?_⟩
  rcases h.2 with ⟨e0, _⟩ | ⟨g', cap', cur, e0, hbg, hh, hnc, hcm, hsz, ht⟩
  · cases e0
  · injection e0 with e1 _ e2
    injection e1 with e1
    injection e1 with e1
    subst e1; subst e2
    refine .inr ⟨g, cap, cur.setIfInBounds i u, rfl, hbg, Blk.set_ (w := w) (g := g) (t := e) (cs := cur) hh i u, hnc, hcm, by simpa using hsz, ?_⟩
    rw [Array.toList_setIfInBounds, List.take_set, ht]
theorem own_frozen {g cap : Nat} (h : w.ownsRow base e size (.slice (some ⟨g, 0, none⟩) n cap) n xs) (i : Nat) : w.frozen? ⟨g, i, none⟩ = false := by
  rcases h.2 with ⟨e0, _⟩ | ⟨g', cap', cur, e0, hbg, hh, _⟩
  · cases e0
  · injection e0 with e1
    injection e1 with e1
    injection e1 with e1
    subst e1
    exact Blk.frozen (w := w) (g := g) (t := e) (cs := cur) hh i
theorem own_cell {g cap : Nat} (h : w.ownsRow base e size (.slice (some ⟨g, 0, none⟩) n cap) n xs) (i : Nat) (hi : i < n * size) : w.cell? ⟨g, i, none⟩ = xs[i]? := by
  rcases h.2 with ⟨e0, _⟩ | ⟨g', cap', cur, e0, hbg, hh, hnc, hcm, hsz, ht⟩
  · cases e0
  · injection e0 with e1
    injection e1 with e1
    injection e1 with e1
    subst e1
    rw [Blk.cell (w := w) (g := g) (t := e) (cs := cur) hh i, ← ht, List.getElem?_take_of_lt hi]
    simp
/-- a row that is not empty lies in a block -/
theorem own_some (h : w.ownsRow base e size v n xs) (hn : 0 < n) : ∃ g cap, v = .slice (some ⟨g, 0, none⟩) n cap ∧ n ≤ cap ∧ cap ≤ maxLen ∧ base ≤ g ∧ g < w.heap.size := by
  obtain ⟨A, c, rfl⟩ := own_shape h
  obtain ⟨g, rfl, h1, h2, h3, h4⟩ := own_pos h hn
  exact ⟨g, c, rfl, h1, h2, h3, h4⟩
end
theorem flat_set {α : Type} {size : Nat} {f : α → List Value} (hf : ∀ x, (f x).length = size) : ∀ (l : List α) (i j : Nat) (hi : i < l.length) (_ : j < size) (u : Value) (y : α), f y = (f l[i]).set j u → (l.set i y).flatMap f = (l.flatMap f).set (i * size + j) u := by
  intro l
  induction l with
  | nil => intro i j hi; simp at hi
  | cons x r ih =>
    intro i j hi hj u y hy
    cases i with
    | zero =>
      rw [List.set_cons_zero, List.flatMap_cons, List.flatMap_cons, Nat.zero_mul, Nat.zero_add, List.set_append_left _ _ (by rw [hf]; exact hj), hy]
      rfl
    | succ i =>
      rw [List.set_cons_succ, List.flatMap_cons, List.flatMap_cons, List.set_append_right _ _ (by rw [hf, Nat.add_mul]; omega), hf, show (i + 1) * size + j - size = i * size + j by rw [Nat.add_mul]; omega, ih i j (by simpa using hi) hj u y hy]

/-! ### A model of the call's own -/
/-- a node, and where its lists lie -/
structure LN where
  n : ANode
  p : Value
  k : Value
  r : Value
def LN.cells (x : LN) : List Value := nodeCellsA x.n x.p x.k x.r
theorem LN.cells_len : ∀ x : LN, x.cells.length = 7 := fun _ => rfl
def LN.blocks (x : LN) : List (Option Nat) := [x.p.ownBlock, x.k.ownBlock, x.r.ownBlock]
structure OwnL (w : World) (base : Nat) (x : LN) : Prop where
  p : w.ownsRow base 82 2 x.p x.n.props.length (x.n.props.flatMap propCells)
  k : OwnI w base x.k x.n.kids
  r : w.ownsRow base 84 2 x.r x.n.refs.length (x.n.refs.flatMap refCells)
def allBlocks (l : List LN) : List (Option Nat) := l.flatMap LN.blocks
structure OwnM (w : World) (base : Nat) (v : Value) (l : List LN) : Prop where
  row : w.ownsRow base 79 7 v l.length (l.flatMap LN.cells)
  lists : ∀ x ∈ l, OwnL w base x
  dis : ∀ b, (v.ownBlock :: allBlocks l).count (some b) ≤ 1
theorem cnt3 {o1 o2 o3 : Option Nat} (h12 : ∀ b, o1 = some b → o2 ≠ some b) (h13 : ∀ b, o1 = some b → o3 ≠ some b) (h23 : ∀ b, o2 = some b → o3 ≠ some b) : ∀ b, [o1, o2, o3].count (some b) ≤ 1 := by
  intro b
  have a := h12 b; have c := h13 b; have d := h23 b
  simp only [List.count_cons, List.count_nil, beq_iff_eq]
  by_cases e1 : o1 = some b
  · simp [e1, a e1, c e1]
  · by_cases e2 : o2 = some b
    · simp [e1, e2, d e2]
    · by_cases e3 : o3 = some b <;> simp [e1, e2, e3]
theorem own_of_blk {w : World} {base g : Nat} {l : List Int} (h : Blk w g 3 (l.flatMap intCells).toArray) (hb : base ≤ g) (hl : l.length ≤ maxLen) : OwnI w base (.slice (some ⟨g, 0, none⟩) l.length l.length) l := by
  have hf := flat_length intCells_len l
  rw [intCells_map] at h hf
  exact ⟨by rw [hf], .inr ⟨g, l.length, _, rfl, hb, h, Nat.le_refl _, hl, by simp, by simp [List.take_of_length_le]⟩⟩
theorem mem_all {l : List LN} {x : LN} (hx : x ∈ l) {o : Option Nat} (ho : o ∈ x.blocks) : o ∈ allBlocks l := List.mem_flatMap.2 ⟨x, hx, ho⟩
section
variable {w w' : World} {base base' : Nat} {v : Value} {l : List LN} {F : Nat → Prop}
theorem OwnL.keep {x : LN} (h : OwnL w base x) (hb : ∀ b, some b ∈ x.blocks → w'.heap[b]? = w.heap[b]?) : OwnL w' base x :=
  ⟨own_keep h.p fun b e => hb b (by simp [LN.blocks, e]), own_keep h.k fun b e => hb b (by simp [LN.blocks, e]), own_keep h.r fun b e => hb b (by simp [LN.blocks, e])⟩
theorem OwnL.weaken {x : LN} (h : OwnL w base x) (hb : base' ≤ base) : OwnL w base' x := ⟨own_weaken h.p hb, h.k.weaken hb, own_weaken h.r hb⟩
theorem OwnL.lt {x : LN} (h : OwnL w base x) : ∀ b, some b ∈ x.blocks → base ≤ b ∧ b < w.heap.size := by
  intro b hb
  simp only [LN.blocks, List.mem_cons, List.not_mem_nil, or_false] at hb
  rcases hb with hb | hb | hb
  · exact h.p.lt b hb.symm
  · exact h.k.lt b hb.symm
  · exact h.r.lt b hb.symm
theorem OwnM.weaken (h : OwnM w base v l) (hb : base' ≤ base) : OwnM w base' v l := ⟨own_weaken h.row hb, fun x hx => (h.lists x hx).weaken hb, h.dis⟩
theorem OwnM.lt (h : OwnM w base v l) : ∀ b, some b ∈ (v.ownBlock :: allBlocks l) → base ≤ b ∧ b < w.heap.size := by
  intro b hb
  rcases List.mem_cons.1 hb with hb | hb
  · exact h.row.lt b hb.symm
  · obtain ⟨x, hx, hb⟩ := List.mem_flatMap.1 hb
    exact (h.lists x hx).lt b hb
theorem OwnM.keep (h : OwnM w base v l) (hb : ∀ b, base ≤ b → b < w.heap.size → w'.heap[b]? = w.heap[b]?) : OwnM w' base v l :=
  ⟨own_keep h.row fun b e => hb b (h.row.lt b e).1 (h.row.lt b e).2, fun x hx => (h.lists x hx).keep fun b e => hb b ((h.lists x hx).lt b e).1 ((h.lists x hx).lt b e).2, h.dis⟩
theorem OwnM.below (h : OwnM w base v l) (hb : Below w.heap.size w w') : OwnM w' base v l := h.keep fun b _ h2 => hb.block b h2
theorem OwnM.nil (w : World) (base : Nat) : OwnM w base (.slice none 0 0) [] := ⟨World.ownsRow_nil _ _ _ _, fun _ h => by simp at h, fun b => by simp [allBlocks, Value.ownBlock]⟩
/-- what the call owns reads as a row of nodes -/
theorem OwnM.isRow (h : OwnM w base v l) (hF : ∀ b, base ≤ b → b < w.heap.size → F b) : IsRow 7 ENode w F v (l.map LN.n) := by
  obtain ⟨A, c, e, h1, h2, h3⟩ := IsRow.of_own (F := F) LN.cells_len h.row (own_at h.row hF)
  refine ⟨A, c, by simpa using e, by simpa using h1, h2, fun hn => h3.1 (by simpa using hn), fun i hi => ?_⟩
  have hi' : i < l.length := by simpa using hi
  obtain ⟨cs, hl, hx, hc⟩ := h3.2 i hi'
  refine ⟨cs, hl, ?_, hc⟩
  have ho := h.lists l[i] (List.getElem_mem hi')
  rw [List.getElem_map]
  unfold EFlat at hx
  subst hx
  exact ⟨l[i].p, l[i].k, l[i].r, rfl, IsRow.of_own propCells_len ho.p (own_at ho.p hF), ho.k.isRow hF, IsRow.of_own refCells_len ho.r (own_at ho.r hF)⟩
theorem OwnM.isModel (h : OwnM w base v l) (next : Int) (hF : ∀ b, base ≤ b → b < w.heap.size → F b) : IsModel w F (.agg #[.int .i64 next, v]) ⟨next, l.map LN.n⟩ :=
  ⟨v, rfl, h.isRow hF⟩
end
end Go.Proofs.Ytpjkifbicfcajaa
end
section
namespace Go.Proofs.Ytpjkifbicfcajaa
open Go Go.RowKit

theorem count_pos {o : Option Nat} {l : List (Option Nat)} (h : o ∈ l) : 0 < l.count o := List.count_pos_iff.2 h
theorem count_no {o : Option Nat} {l : List (Option Nat)} (h : o ∉ l) : l.count o = 0 := List.count_eq_zero.2 h
theorem all_append (a b : List LN) : allBlocks (a ++ b) = allBlocks a ++ allBlocks b := List.flatMap_append
theorem all_cons (x : LN) (b : List LN) : allBlocks (x :: b) = x.blocks ++ allBlocks b := List.flatMap_cons
section
variable {w w' : World} {base : Nat} {v v' : Value} {l : List LN} {x : LN}
/-- a list's block is not the row's -/
theorem OwnM.row_ne (h : OwnM w base v l) {y : LN} (hy : y ∈ l) {b : Nat} (hb : some b ∈ y.blocks) : some b ≠ v.ownBlock := by
  intro e
  have h1 := h.dis b
  rw [← e, List.count_cons_self] at h1
  have := count_pos (mem_all hy hb)
  omega
theorem OwnM.push (h : OwnM w base v l) (hx : OwnL w base x) (hd : ∀ b, x.blocks.count (some b) ≤ 1) (hsep : ∀ b, some b ∈ x.blocks → some b ∉ (v.ownBlock :: allBlocks l))
    (hrow : w'.ownsRow base 79 7 v' (l.length + 1) (l.flatMap LN.cells ++ x.cells)) (hg : w.grownBy w' v.ownBlock) (hat : v'.ownBlock = v.ownBlock ∨ v'.ownBlock = some w.heap.size) : OwnM w' base v' (l ++ [x]) := by
  refine ⟨by simpa using hrow, fun y hy => ?_, fun b => ?_⟩
  · rcases List.mem_append.1 hy with hy | hy
    · exact (h.lists y hy).keep fun b hb => hg.block b ((h.lists y hy).lt b hb).2 (h.row_ne hy hb)
    · simp only [List.mem_cons, List.not_mem_nil, or_false] at hy
      subst hy
      exact hx.keep fun b hb => hg.block b (hx.lt b hb).2 (fun e => hsep b hb (by rw [e]; exact List.mem_cons_self ..))
  · have h1 := h.dis b
    have h2 := hd b
    have h3 : some b ∈ x.blocks → (v.ownBlock :: allBlocks l).count (some b) = 0 := fun hb => count_no (hsep b hb)
    have h4 : some b ∉ x.blocks → x.blocks.count (some b) = 0 := count_no
    have e1 : (v'.ownBlock :: allBlocks (l ++ [x])).count (some b) = (if v'.ownBlock = some b then 1 else 0) + (allBlocks l).count (some b) + x.blocks.count (some b) := by
      rw [all_append, List.count_cons, List.count_append]
      simp only [allBlocks, List.flatMap_cons, List.flatMap_nil, List.append_nil, beq_iff_eq]
      omega
    have e2 : (v.ownBlock :: allBlocks l).count (some b) = (if v.ownBlock = some b then 1 else 0) + (allBlocks l).count (some b) := by
      rw [List.count_cons]; simp only [beq_iff_eq]; omega
    rw [e1]
    rw [e2] at h1 h3
    rcases hat with e | e
    · rw [e]
      by_cases hb : some b ∈ x.blocks
      · have := h3 hb; omega
      · have := h4 hb; omega
    · rw [e]
      by_cases hbw : w.heap.size = b
      · subst hbw
        have n1 : (allBlocks l).count (some w.heap.size) = 0 := count_no fun hm => by
          have := (h.lt _ (List.mem_cons_of_mem _ hm)).2; omega
        have n2 : x.blocks.count (some w.heap.size) = 0 := count_no fun hm => by
          have := (hx.lt _ hm).2; omega
        rw [if_pos rfl]; omega
      · rw [if_neg (fun e => hbw (by injection e))]
        by_cases hb : some b ∈ x.blocks
        · have := h3 hb; omega
        · have := h4 hb; omega
end
end Go.Proofs.Ytpjkifbicfcajaa
end
section
namespace Go.Proofs.Ytpjkifbicfcajaa
open Go Go.RowKit

/-! ### Nodes of a model of the call's own, written in -/
theorem set_split {α : Type} {l : List α} {i : Nat} (h : i < l.length) (x : α) : l.set i x = l.take i ++ x :: l.drop (i + 1) ∧ l = l.take i ++ l[i] :: l.drop (i + 1) := by
  refine ⟨List.set_eq_take_append_cons_drop .. |>.trans (if_pos h), ?_⟩
  rw [List.getElem_cons_drop, List.take_append_drop]
theorem all_set_count {l : List LN} {i : Nat} (h : i < l.length) (x : LN) (o : Option Nat) : (allBlocks (l.set i x)).count o + l[i].blocks.count o = (allBlocks l).count o + x.blocks.count o := by
  obtain ⟨e1, e2⟩ := set_split h x
  have c1 : (allBlocks (l.set i x)).count o = (allBlocks (l.take i)).count o + (x.blocks.count o + (allBlocks (l.drop (i + 1))).count o) := by rw [e1, all_append, all_cons, List.count_append, List.count_append]
  have c2 : (allBlocks l).count o = (allBlocks (l.take i)).count o + (l[i].blocks.count o + (allBlocks (l.drop (i + 1))).count o) := by
    conv => lhs; rw [e2]
    rw [all_append, all_cons, List.count_append, List.count_append]
  omega
section
variable {w w' : World} {base g n cap : Nat} {l : List LN}
/-- a node's own cell written anew, its lists as they were -/
theorem OwnM.setHead (h : OwnM w base (.slice (some ⟨g, 0, none⟩) n cap) l) {i : Nat} (hi : i < l.length) {j : Nat} (hj : j < 7) (u : Value) (x : LN) (hc : x.cells = l[i].cells.set j u)
    (hv : x.p = l[i].p ∧ x.k = l[i].k ∧ x.r = l[i].r) (hn : x.n.props = l[i].n.props ∧ x.n.kids = l[i].n.kids ∧ x.n.refs = l[i].n.refs) : OwnM (w.setCell ⟨g, i * 7 + j, none⟩ u) base (.slice (some ⟨g, 0, none⟩) n cap) (l.set i x) := by
  have hnl : n = l.length := by obtain ⟨A, c, e⟩ := own_shape h.row; injection e
  subst hnl
  have hb : x.blocks = l[i].blocks := by unfold LN.blocks; rw [hv.1, hv.2.1, hv.2.2]
  have keep : ∀ y ∈ l, OwnL (w.setCell ⟨g, i * 7 + j, none⟩ u) base y := fun y hy => (h.lists y hy).keep fun b hb => Below.heap_setCell _ _ _ _ (fun e => h.row_ne hy hb (by rw [e]; rfl))
  refine ⟨?_, fun y hy => ?_, fun b => ?_⟩
  · rw [List.length_set, flat_set LN.cells_len l i j hi hj u x hc]
    exact own_set h.row (by have : (i + 1) * 7 ≤ l.length * 7 := Nat.mul_le_mul_right _ hi; omega) u
  · rcases List.mem_or_eq_of_mem_set hy with hy | rfl
    · exact keep y hy
    · have k := keep _ (List.getElem_mem hi)
      exact ⟨by rw [hv.1, hn.1]; exact k.p, by rw [hv.2.1, hn.2.1]; exact k.k, by rw [hv.2.2, hn.2.2]; exact k.r⟩
  · have h1 := h.dis b
    have h2 := all_set_count hi x (some b)
    rw [hb] at h2
    rw [List.count_cons] at h1 ⊢
    omega
/-- a list of a node's put in place of the elder one: 'old' its value, 'new' the new one's -/
theorem OwnM.setList (h : OwnM w base (.slice (some ⟨g, 0, none⟩) n cap) l) {i : Nat} (hi : i < l.length) {j : Nat} (hj : j < 7) (x : LN) (old new : Value) (hg : w.grownBy w' old.ownBlock) (hold : old.ownBlock ∈ l[i].blocks)
    (hnew : new.ownBlock = old.ownBlock ∨ new.ownBlock = none ∨ ∃ b, new.ownBlock = some b ∧ w.heap.size ≤ b)
    (hc : x.cells = l[i].cells.set j new) (hcnt : ∀ o, x.blocks.count o + [old.ownBlock].count o = l[i].blocks.count o + [new.ownBlock].count o)
    (hx : (∀ b, some b ∈ l[i].blocks → some b ≠ old.ownBlock → w'.heap[b]? = w.heap[b]?) → OwnL w' base x) (hxn : ∀ b, some b ∈ x.blocks → b ≠ g) :
    OwnM (w'.setCell ⟨g, i * 7 + j, none⟩ new) base (.slice (some ⟨g, 0, none⟩) n cap) (l.set i x) := by
  have hnl : n = l.length := by obtain ⟨A, c, e⟩ := own_shape h.row; injection e
  subst hnl
  have hrow := h.row.lt g rfl
  have hgo : some g ≠ old.ownBlock := by
    intro e
    exact h.row_ne (List.getElem_mem hi) (b := g) (by rw [e]; exact hold) rfl
  refine ⟨?_, fun y hy => ?_, fun b => ?_⟩
  · rw [List.length_set, flat_set LN.cells_len l i j hi hj new x hc]
    exact own_set (own_keep h.row fun b e => by obtain rfl : g = b := (by injection e); exact hg.block _ hrow.2 hgo) (by have : (i + 1) * 7 ≤ l.length * 7 := Nat.mul_le_mul_right _ hi; omega) new
  · have far : ∀ b, b ≠ g → (w'.setCell ⟨g, i * 7 + j, none⟩ new).heap[b]? = w'.heap[b]? := fun b hb => Below.heap_setCell _ _ _ _ hb
    obtain ⟨q, hq, rfl⟩ := List.getElem_of_mem hy
    rw [List.length_set] at hq
    by_cases hqi : q = i
    · subst hqi
      rw [List.getElem_set_self]
      exact (hx fun b hb hne => hg.block b ((h.lists _ (List.getElem_mem hi)).lt b hb).2 hne).keep fun b hb => far b (hxn b hb)
    · rw [List.getElem_set_ne (by omega)]
      have ho := h.lists l[q] (List.getElem_mem hq)
      refine ho.keep fun b hb => ?_
      have hbg : b ≠ g := fun e => h.row_ne (List.getElem_mem hq) hb (by rw [e]; rfl)
      refine (far b hbg).trans (hg.block b (ho.lt b hb).2 (fun e => ?_))
      -- the block would be both nodes'
      have h1 := h.dis b
      rw [List.count_cons] at h1
      have hb2 : some b ∈ l[i].blocks := by rw [e]; exact hold
      have h2 : 2 ≤ (allBlocks l).count (some b) := by
        have p1 := count_pos hb; have p2 := count_pos hb2
        have key : ∀ (a c : Nat) (ha : a < l.length) (hc : c < l.length), a < c → some b ∈ l[a].blocks → some b ∈ l[c].blocks → 2 ≤ (allBlocks l).count (some b) := by
          intro a c ha hc hac m1 m2
          have e2 := (set_split hc l[c]).2
          have : (allBlocks l).count (some b) = (allBlocks (l.take c)).count (some b) + (l[c].blocks.count (some b) + (allBlocks (l.drop (c + 1))).count (some b)) := by
            conv => lhs; rw [e2]
            rw [all_append, all_cons, List.count_append, List.count_append]
          have q1 : 0 < (allBlocks (l.take c)).count (some b) := count_pos (mem_all (x := l[a]) (by
            rw [List.mem_take_iff_getElem]; exact ⟨a, by omega, rfl⟩) m1)
          have q2 := count_pos m2
          omega
        rcases Nat.lt_or_gt_of_ne hqi with h3 | h3
        · exact key q i hq hi h3 hb hb2
        · exact key i q hi hq h3 hb2 hb
      omega
  · have h1 := h.dis b
    have h2 := all_set_count hi x (some b)
    have h3 := hcnt (some b)
    rw [List.count_cons] at h1 ⊢
    have s1 : ∀ o : Option Nat, [o].count (some b) = if o = some b then 1 else 0 := fun o => by simp [List.count_cons]
    rw [s1, s1] at h3
    rcases hnew with e | e | ⟨b0, e, hb0⟩
    · rw [e] at h3; omega
    · rw [e] at h3
      simp only [reduceCtorEq, if_false] at h3
      omega
    · rw [e] at h3
      by_cases hbb : b0 = b
      · subst hbb
        have n1 : (allBlocks l).count (some b0) = 0 := count_no fun hm => by
          have := (h.lt _ (List.mem_cons_of_mem _ hm)).2; omega
        have n2 : l[i].blocks.count (some b0) = 0 := count_no fun hm => by
          have := ((h.lists _ (List.getElem_mem hi)).lt _ hm).2; omega
        have n3 : ((Value.slice (some ⟨g, 0, none⟩) l.length cap).ownBlock == some b0) = false := by
          apply beq_eq_false_iff_ne.2
          intro e; have : g = b0 := by injection e
          omega
        rw [n3] at h1 ⊢
        simp only [if_true] at h3
        have : (if old.ownBlock = some b0 then 1 else 0) = 0 := if_neg fun e => by
          have := count_pos (e ▸ hold); omega
        simp at h1 ⊢
        omega
      · rw [if_neg (show ¬ (some b0 : Option Nat) = some b from fun e => hbb (by injection e))] at h3
        omega
theorem OwnM.cell (h : OwnM w base (.slice (some ⟨g, 0, none⟩) n cap) l) {i j : Nat} (hi : i < l.length) (hj : j < 7) : w.cell? ⟨g, i * 7 + j, none⟩ = l[i].cells[j]? := by
  have hnl : n = l.length := by obtain ⟨A, c, e⟩ := own_shape h.row; injection e
  subst hnl
  rw [own_cell h.row (i * 7 + j) (by have : (i + 1) * 7 ≤ l.length * 7 := Nat.mul_le_mul_right _ hi; omega), flat_at LN.cells_len l i j hi hj]
theorem OwnM.frozen (h : OwnM w base (.slice (some ⟨g, 0, none⟩) n cap) l) (i : Nat) : w.frozen? ⟨g, i, none⟩ = false := by
  have hnl : n = l.length := by obtain ⟨A, c, e⟩ := own_shape h.row; injection e
  subst hnl
  exact own_frozen h.row i
theorem OwnM.rowOf {A : Option Addr} {F : Nat → Prop} (h : OwnM w base (.slice A n cap) l) (hF : ∀ b, base ≤ b → b < w.heap.size → F b) : RowOf 7 ENode w F A (l.map LN.n) := by
  obtain ⟨A', c', e, _, _, h3⟩ := h.isRow hF
  injection e with e1 _ _
  subst e1
  exact h3
end
/-- all is as it was, but for blocks of O and for what is new -/
structure KeepO (O : Nat → Prop) (w w' : World) : Prop where
  os : w'.os = w.os
  tape : w'.tape = w.tape
  output : w'.output = w.output
  size : w.heap.size ≤ w'.heap.size
  block : ∀ k, k < w.heap.size → ¬ O k → w'.heap[k]? = w.heap[k]?
section
variable {O : Nat → Prop} {a w w' : World}
theorem KeepO.refl (O : Nat → Prop) (w : World) : KeepO O w w := ⟨rfl, rfl, rfl, Nat.le_refl _, fun _ _ _ => rfl⟩
theorem KeepO.below (h : KeepO O a w) (hb : Below w.heap.size w w') : KeepO O a w' :=
  ⟨hb.os.trans h.os, hb.tape.trans h.tape, hb.output.trans h.output, Nat.le_trans h.size hb.size, fun k hk hn => (hb.block k (Nat.lt_of_lt_of_le hk h.size)).trans (h.block k hk hn)⟩
theorem KeepO.alloc (h : KeepO O a w) (o : Obj) : KeepO O a (w.alloc o) := h.below ((Below.refl w.heap.size w).alloc (Nat.le_refl _) o)
theorem KeepO.set_ (h : KeepO O a w) {g : Nat} (hg : O g) (i : Nat) (u : Value) : KeepO O a (w.setCell ⟨g, i, none⟩ u) :=
  ⟨h.os, h.tape, h.output, by simpa using h.size, fun k hk hn => (Below.heap_setCell _ _ _ _ (fun e => hn (by subst e; exact hg))).trans (h.block k hk hn)⟩
theorem KeepO.grown (h : KeepO O a w) {row : Option Nat} (hg : w.grownBy w' row) (hr : ∀ b, row = some b → O b) : KeepO O a w' :=
  ⟨hg.os.trans h.os, hg.tape.trans h.tape, hg.output.trans h.output, Nat.le_trans h.size hg.size, fun k hk hn => (hg.block k (Nat.lt_of_lt_of_le hk h.size) (fun e => hn (hr k e.symm))).trans (h.block k hk hn)⟩
theorem KeepO.toBelow {B : Nat} (h : KeepO O a w) (hB : B ≤ a.heap.size) (hO : ∀ b, O b → B ≤ b) : Below B a w :=
  ⟨h.os, h.tape, h.output, h.size, fun k hk => h.block k (by omega) (fun e => by have := hO k e; omega)⟩
theorem KeepO.blk {g : Nat} {t : TypeId} {cs : Array Value} (h : KeepO O a w) (hb : Blk a g t cs) (hg : ¬ O g) : Blk w g t cs := (h.block g hb.lt hg).trans hb
end
end Go.Proofs.Ytpjkifbicfcajaa
end
