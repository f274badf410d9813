import Derived.Test.YtpjkifbicfcajaaALentP
import Derived.Test.YtpjkifbicfcajaaAHangsP
import Derived.Test.YtpjkifbicfcajaaQTail
import Derived.Test.YtpjkifbicfcajaaADataA
set_option linter.unusedSimpArgs false
set_option linter.unusedVariables false
section
namespace Go.Proofs.Ytpjkifbicfcajaa
open Go Go.RowKit

/-! ### Rows of numbers of the call's own -/
def OwnI (w : World) (base : Nat) (v : Value) (l : List Int) : Prop := w.ownsRow base 3 1 v l.length (l.map (Value.int .i64))
section
variable {w w' : World} {base : Nat} {v : Value} {l : List Int}
theorem OwnI.nil (w : World) (base : Nat) : OwnI w base (.slice none 0 0) [] := World.ownsRow_nil _ _ _ _
theorem OwnI.lt (h : OwnI w base v l) : ∀ g, v.ownBlock = some g → base ≤ g ∧ g < w.heap.size := World.ownsRow.lt h
theorem OwnI.kept {row : Option Nat} (h : OwnI w base v l) (hg : w.grownBy w' row) (hne : v.ownBlock = none ∨ v.ownBlock ≠ row) : OwnI w' base v l := World.ownsRow.kept h hg hne
theorem OwnI.alloc (h : OwnI w base v l) (o : Obj) : OwnI (w.alloc o) base v l := World.ownsRow.alloc h o
theorem OwnI.drew (h : OwnI w base v l) : OwnI w.drew base v l := World.ownsRow.drew h
theorem OwnI.drewN (h : OwnI w base v l) (n : Nat) : OwnI (w.drewN n) base v l := h
theorem OwnI.below (h : OwnI w base v l) (hb : Below w.heap.size w w') : OwnI w' base v l :=
  h.kept (row := none) ⟨hb.os, hb.tape, hb.output, hb.size, fun k hk _ => hb.block k hk⟩ (by cases hv : v.ownBlock <;> simp)
theorem OwnI.far (h : OwnI w base v l) {g i : Nat} (hv : g < base) (u : Value) : OwnI (w.setCell ⟨g, i, none⟩ u) base v l :=
  h.kept (row := some g) ⟨rfl, rfl, rfl, by simp, fun k _ hne => Below.heap_setCell _ _ _ _ (fun e => hne (by rw [e]))⟩ (.inr (fun e => by have := (h.lt g e).1; omega))
theorem OwnI.shape (h : OwnI w base v l) : ∃ A c, v = .slice A l.length c := own_shape h
theorem OwnI.weaken {b' : Nat} (h : OwnI w base v l) (hb : b' ≤ base) : OwnI w b' v l := by
  refine ⟨h.1, ?_⟩
  rcases h.2 with h0 | ⟨g, cap, cur, h1, h2, h3⟩
  · exact .inl h0
  · exact .inr ⟨g, cap, cur, h1, by omega, h3⟩
theorem OwnI.one (w : World) {base : Nat} (hb : base ≤ w.heap.size) (x : Int) : OwnI (w.alloc (.cells #[.int .i64 x] 3)) base (.slice (some ⟨w.heap.size, 0, none⟩) 1 1) [x] :=
  ⟨by simp, .inr ⟨w.heap.size, 1, #[.int .i64 x], rfl, hb, heap_alloc_new w _, Nat.le_refl _, by unfold maxLen; omega, rfl, by simp⟩⟩
theorem intCells_map (l : List Int) : l.flatMap intCells = l.map (Value.int .i64) := by
  induction l with
  | nil => rfl
  | cons x r ih => rw [List.flatMap_cons, ih]; rfl
theorem OwnI.isRow {F : Nat → Prop} (h : OwnI w base v l) (hF : ∀ b, base ≤ b → b < w.heap.size → F b) : IsRow 1 EInt w F v l :=
  IsRow.of_own intCells_len (by rw [intCells_map]; exact h) (own_at h hF)
theorem OwnI.pop {g c n : Nat} {x : Int} (h : OwnI w base (.slice (some ⟨g, 0, none⟩) n c) (l ++ [x])) : n = l.length + 1 ∧ OwnI w base (.slice (some ⟨g, 0, none⟩) l.length c) l := by
  obtain ⟨A, c', e⟩ := h.shape
  injection e with _ e _
  have hn : n = l.length + 1 := by rw [e]; simp
  subst hn
  refine ⟨rfl, by simp, ?_⟩
  rcases h.2 with ⟨e0, _⟩ | ⟨g', cap, cur, e0, hb, hh, hc, hm, hs, ht⟩
  · cases e0
  · injection e0 with e1 _ e2
    injection e1 with e1
    injection e1 with e1
    subst e1; subst e2
    refine .inr ⟨g, c, cur, rfl, hb, hh, by simp at hc; omega, hm, hs, ?_⟩
    have h1 := congrArg (List.take l.length) ht
    rw [List.take_take] at h1
    simp at h1 ⊢
    rw [← h1]
/-- one number more -/
theorem wpList_pushI {ops : Array Oper} {rest : List Oper} {o : Oper} {a : Act} {Q : Exit → Act → World → Prop} (hgd : o.guard = none) (s x : Operand)
    (ho : o.op = .call { callee := .builtin .append, args := #[s, x], argTypes := #[54, 54] }) (hs : a.eval s = v) (hown : OwnI w base v l) (y : Int) (g : Nat) (hx : a.eval x = .slice (some ⟨g, 0, none⟩) 1 1) (hblk : Blk w g 3 #[.int .i64 y])
    (hl : l.length ≤ 1048576) (hbase : base ≤ w.heap.size)
    (h : ∀ A' c' w', OwnI w' base (.slice A' (l.length + 1) c') (l ++ [y]) → w.grownBy w' v.ownBlock → ((Value.slice A' (l.length + 1) c').ownBlock = v.ownBlock ∨ (Value.slice A' (l.length + 1) c').ownBlock = some w.heap.size) → wpList Try.prog ops Q rest (a.put o.dst (.slice A' (l.length + 1) c')) w') : wpList Try.prog ops Q (o :: rest) a w :=
  wpList_append_from w hgd s x 54 ho base 3 Try.underlying54 int_info rfl (by omega) v l.length (l.map (Value.int .i64)) hs hown (some ⟨g, 0, none⟩) 1 1 [.int .i64 y] hx rfl (by simp)
    (fun ad e => by cases e; exact news_cells hblk) (by simp [Value.oneCell']) (by unfold maxLen; omega) (by omega) hbase
    fun A' c' w' h2 h3 h4 => h A' c' w' (by unfold OwnI; simpa using h2) h3 h4
theorem step_pushI {ops : Array Oper} {o : Oper} {a : Act} {K : Act → World → Prop} {Q : Exit → Act → World → Prop} {G : Prop} (hgd : o.guard = none) (s x : Operand)
    (ho : o.op = .call { callee := .builtin .append, args := #[s, x], argTypes := #[54, 54] }) (hs : a.eval s = v) (hown : OwnI w base v l) (y : Int) (g : Nat) (hx : a.eval x = .slice (some ⟨g, 0, none⟩) 1 1) (hblk : Blk w g 3 #[.int .i64 y])
    (hl : l.length ≤ 1048576) (hbase : base ≤ w.heap.size)
    (h : ∀ A' c' w', OwnI w' base (.slice A' (l.length + 1) c') (l ++ [y]) → w.grownBy w' v.ownBlock → ((Value.slice A' (l.length + 1) c').ownBlock = v.ownBlock ∨ (Value.slice A' (l.length + 1) c').ownBlock = some w.heap.size) → K (a.put o.dst (.slice A' (l.length + 1) c')) w') :
    if Region.wanted o (yielded ops a.tmps) = true then Oper.wp Try.prog o a w K Q else G :=
  step_append_from w hgd s x 54 ho base 3 Try.underlying54 int_info rfl (by omega) v l.length (l.map (Value.int .i64)) hs hown (some ⟨g, 0, none⟩) 1 1 [.int .i64 y] hx rfl (by simp)
    (fun ad e => by cases e; exact news_cells hblk) (by simp [Value.oneCell']) (by unfold maxLen; omega) (by omega) hbase
    fun A' c' w' h2 h3 h4 => h A' c' w' (by unfold OwnI; simpa using h2) h3 h4
/-- a row of numbers more -/
theorem step_joinI {ops : Array Oper} {o : Oper} {a : Act} {K : Act → World → Prop} {Q : Exit → Act → World → Prop} {G : Prop} (hgd : o.guard = none) (s x : Operand)
    (ho : o.op = .call { callee := .builtin .append, args := #[s, x], argTypes := #[54, 54] }) (hs : a.eval s = v) (hown : OwnI w base v l) (A : Option Addr) (c : Nat) (l2 : List Int) (F : Nat → Prop) (hx : a.eval x = .slice A l2.length c) (hrow : RowOf 1 EInt w F A l2)
    (hl : l.length + l2.length ≤ 1048576) (hbase : base ≤ w.heap.size)
    (h : ∀ A' c' w', OwnI w' base (.slice A' (l.length + l2.length) c') (l ++ l2) → w.grownBy w' v.ownBlock → ((Value.slice A' (l.length + l2.length) c').ownBlock = v.ownBlock ∨ (Value.slice A' (l.length + l2.length) c').ownBlock = some w.heap.size) → K (a.put o.dst (.slice A' (l.length + l2.length) c')) w') :
    if Region.wanted o (yielded ops a.tmps) = true then Oper.wp Try.prog o a w K Q else G :=
  step_append_from w hgd s x 54 ho base 3 Try.underlying54 int_info rfl (by omega) v l.length (l.map (Value.int .i64)) hs hown A l2.length c (l2.map (Value.int .i64)) hx (by simp) (fun e => by subst e; rw [hrow.none_nil]; rfl)
    (fun ad e => by have := hrow.cellsFrom intCells_len ad e; rw [intCells_map] at this; exact this) (by simp [Value.oneCell']) (by unfold maxLen; omega) (by omega) hbase
    fun A' c' w' h2 h3 h4 => h A' c' w' (by unfold OwnI; simpa using h2) h3 h4
end

/-! ### Below B all is as it was, but for block p -/
structure KB (B p : Nat) (w w' : World) : Prop where
  os : w'.os = w.os
  tape : w'.tape = w.tape
  output : w'.output = w.output
  size : w.heap.size ≤ w'.heap.size
  block : ∀ k, k < B → k ≠ p → w'.heap[k]? = w.heap[k]?
section
variable {B p : Nat} {u w w' : World} {F : Nat → Prop}
theorem KB.refl (B p : Nat) (w : World) : KB B p w w := ⟨rfl, rfl, rfl, Nat.le_refl _, fun _ _ _ => rfl⟩
theorem KB.trans (h : KB B p u w) (k : KB B p w w') : KB B p u w' :=
  ⟨k.os.trans h.os, k.tape.trans h.tape, k.output.trans h.output, Nat.le_trans h.size k.size, fun i hi hn => (k.block i hi hn).trans (h.block i hi hn)⟩
theorem KB.of_below (h : Below B w w') : KB B p w w' := ⟨h.os, h.tape, h.output, h.size, fun k hk _ => h.block k hk⟩
theorem KB.set_ (h : KB B p u w) (i : Nat) (x : Value) : KB B p u (w.setCell ⟨p, i, none⟩ x) :=
  ⟨h.os, h.tape, h.output, by simpa using h.size, fun k hk hn => (Below.heap_setCell w _ x k hn).trans (h.block k hk hn)⟩
theorem KB.below (h : KB B p w w') {b : Nat} (hb : b ≤ B) (hp : b ≤ p) : Below b w w' := ⟨h.os, h.tape, h.output, h.size, fun k hk => h.block k (by omega) (by omega)⟩
theorem KB.blk {g : Nat} {t : TypeId} {cs : Array Value} (h : KB B p w w') (hb : Blk w g t cs) (hg : g < B) (hne : g ≠ p) : Blk w' g t cs := (h.block g hg hne).trans hb
theorem KB.keep (h : KB B p w w') (hF : ∀ b, F b → b < B ∧ b ≠ p) : Keep F w w' := fun q hq => World.cell?_of_block (h.block q.block (hF _ hq).1 (hF _ hq).2)
end
end Go.Proofs.Ytpjkifbicfcajaa
end
section
namespace Go.Proofs.Ytpjkifbicfcajaa
open Go Go.RowKit

/-! ### Rows of the call's own, kept, and written in -/
section
variable {w w' : World} {base base' : Nat} {e : TypeId} {size : Nat} {v : Value} {n : Nat} {xs : List Value}
theorem own_keep (h : w.ownsRow base e size v n xs) (hb : ∀ b, v.ownBlock = some b → w'.heap[b]? = w.heap[b]?) : w'.ownsRow base e size v n xs := by
  refine ⟨h.1, ?_⟩
  rcases h.2 with h0 | ⟨g, cap, cur, e0, hbg, hh, h3⟩
  · exact .inl h0
  · exact .inr ⟨g, cap, cur, e0, hbg, (hb g (by rw [e0]; rfl)).trans hh, h3⟩
theorem own_weaken (h : w.ownsRow base e size v n xs) (hb : base' ≤ base) : w.ownsRow base' e size v n xs := by
  refine ⟨h.1, ?_⟩
  rcases h.2 with h0 | ⟨g, cap, cur, e0, hbg, h3⟩
  · exact .inl h0
  · exact .inr ⟨g, cap, cur, e0, by omega, h3⟩
/-- one cell of an own row written anew -/
theorem own_set {g cap : Nat} (h : w.ownsRow base e size (.slice (some ⟨g, 0, none⟩) n cap) n xs) {i : Nat} (hi : i < n * size) (u : Value) : (w.setCell ⟨g, i, none⟩ u).ownsRow base e size (.slice (some ⟨g, 0, none⟩) n cap) n (xs.set i u) := by
  refine ⟨by rw [List.length_set]; exact h.1, ?_⟩
  rcases h.2 with ⟨e0, _⟩ | ⟨g', cap', cur, e0, hbg, hh, hnc, hcm, hsz, ht⟩
  · cases e0
  · injection e0 with e1 _ e2
    injection e1 with e1
    injection e1 with e1
    subst e1; subst e2
    refine .inr ⟨g, cap, cur.setIfInBounds i u, rfl, hbg, Blk.set_ (w := w) (g := g) (t := e) (cs := cur) hh i u, hnc, hcm, by simpa using hsz, ?_⟩
    rw [Array.toList_setIfInBounds, List.take_set, ht]
theorem own_frozen {g cap : Nat} (h : w.ownsRow base e size (.slice (some ⟨g, 0, none⟩) n cap) n xs) (i : Nat) : w.frozen? ⟨g, i, none⟩ = false := by
  rcases h.2 with ⟨e0, _⟩ | ⟨g', cap', cur, e0, hbg, hh, _⟩
  · cases e0
  · injection e0 with e1
    injection e1 with e1
    injection e1 with e1
    subst e1
    exact Blk.frozen (w := w) (g := g) (t := e) (cs := cur) hh i
theorem own_cell {g cap : Nat} (h : w.ownsRow base e size (.slice (some ⟨g, 0, none⟩) n cap) n xs) (i : Nat) (hi : i < n * size) : w.cell? ⟨g, i, none⟩ = xs[i]? := by
  rcases h.2 with ⟨e0, _⟩ | ⟨g', cap', cur, e0, hbg, hh, hnc, hcm, hsz, ht⟩
  · cases e0
  · injection e0 with e1
    injection e1 with e1
    injection e1 with e1
    subst e1
    rw [Blk.cell (w := w) (g := g) (t := e) (cs := cur) hh i, ← ht, List.getElem?_take_of_lt hi]
    simp
/-- a row that is not empty lies in a block -/
theorem own_some (h : w.ownsRow base e size v n xs) (hn : 0 < n) : ∃ g cap, v = .slice (some ⟨g, 0, none⟩) n cap ∧ n ≤ cap ∧ cap ≤ maxLen ∧ base ≤ g ∧ g < w.heap.size := by
  obtain ⟨A, c, rfl⟩ := own_shape h
  obtain ⟨g, rfl, h1, h2, h3, h4⟩ := own_pos h hn
  exact ⟨g, c, rfl, h1, h2, h3, h4⟩
end
theorem flat_set {α : Type} {size : Nat} {f : α → List Value} (hf : ∀ x, (f x).length = size) : ∀ (l : List α) (i j : Nat) (hi : i < l.length) (_ : j < size) (u : Value) (y : α), f y = (f l[i]).set j u → (l.set i y).flatMap f = (l.flatMap f).set (i * size + j) u := by
  intro l
  induction l with
  | nil => intro i j hi; simp at hi
  | cons x r ih =>
    intro i j hi hj u y hy
    cases i with
    | zero =>
      rw [List.set_cons_zero, List.flatMap_cons, List.flatMap_cons, Nat.zero_mul, Nat.zero_add, List.set_append_left _ _ (by rw [hf]; exact hj), hy]
      rfl
    | succ i =>
      rw [List.set_cons_succ, List.flatMap_cons, List.flatMap_cons, List.set_append_right _ _ (by rw [hf, Nat.add_mul]; omega), hf, show (i + 1) * size + j - size = i * size + j by rw [Nat.add_mul]; omega, ih i j (by simpa using hi) hj u y hy]

/-! ### A model of the call's own -/
/-- a node, and where its lists lie -/
structure LN where
  n : ANode
  p : Value
  k : Value
  r : Value
def LN.cells (x : LN) : List Value := nodeCellsA x.n x.p x.k x.r
theorem LN.cells_len : ∀ x : LN, x.cells.length = 7 := fun _ => rfl
def LN.blocks (x : LN) : List (Option Nat) := [x.p.ownBlock, x.k.ownBlock, x.r.ownBlock]
structure OwnL (w : World) (base : Nat) (x : LN) : Prop where
  p : w.ownsRow base 82 2 x.p x.n.props.length (x.n.props.flatMap propCells)
  k : OwnI w base x.k x.n.kids
  r : w.ownsRow base 84 2 x.r x.n.refs.length (x.n.refs.flatMap refCells)
def allBlocks (l : List LN) : List (Option Nat) := l.flatMap LN.blocks
structure OwnM (w : World) (base : Nat) (v : Value) (l : List LN) : Prop where
  row : w.ownsRow base 79 7 v l.length (l.flatMap LN.cells)
  lists : ∀ x ∈ l, OwnL w base x
  dis : ∀ b, (v.ownBlock :: allBlocks l).count (some b) ≤ 1
theorem cnt3 {o1 o2 o3 : Option Nat} (h12 : ∀ b, o1 = some b → o2 ≠ some b) (h13 : ∀ b, o1 = some b → o3 ≠ some b) (h23 : ∀ b, o2 = some b → o3 ≠ some b) : ∀ b, [o1, o2, o3].count (some b) ≤ 1 := by
  intro b
  have a := h12 b; have c := h13 b; have d := h23 b
  simp only [List.count_cons, List.count_nil, beq_iff_eq]
  by_cases e1 : o1 = some b
  · simp [e1, a e1, c e1]
  · by_cases e2 : o2 = some b
    · simp [e1, e2, d e2]
    · by_cases e3 : o3 = some b <;> simp [e1, e2, e3]
theorem own_of_blk {w : World} {base g : Nat} {l : List Int} (h : Blk w g 3 (l.flatMap intCells).toArray) (hb : base ≤ g) (hl : l.length ≤ maxLen) : OwnI w base (.slice (some ⟨g, 0, none⟩) l.length l.length) l := by
  have hf := flat_length intCells_len l
  rw [intCells_map] at h hf
  exact ⟨by rw [hf], .inr ⟨g, l.length, _, rfl, hb, h, Nat.le_refl _, hl, by simp, by simp [List.take_of_length_le]⟩⟩
theorem mem_all {l : List LN} {x : LN} (hx : x ∈ l) {o : Option Nat} (ho : o ∈ x.blocks) : o ∈ allBlocks l := List.mem_flatMap.2 ⟨x, hx, ho⟩
section
variable {w w' : World} {base base' : Nat} {v : Value} {l : List LN} {F : Nat → Prop}
theorem OwnL.keep {x : LN} (h : OwnL w base x) (hb : ∀ b, some b ∈ x.blocks → w'.heap[b]? = w.heap[b]?) : OwnL w' base x :=
  ⟨own_keep h.p fun b e => hb b (by simp [LN.blocks, e]), own_keep h.k fun b e => hb b (by simp [LN.blocks, e]), own_keep h.r fun b e => hb b (by simp [LN.blocks, e])⟩
theorem OwnL.weaken {x : LN} (h : OwnL w base x) (hb : base' ≤ base) : OwnL w base' x := ⟨own_weaken h.p hb, h.k.weaken hb, own_weaken h.r hb⟩
theorem OwnL.lt {x : LN} (h : OwnL w base x) : ∀ b, some b ∈ x.blocks → base ≤ b ∧ b < w.heap.size := by
  intro b hb
  simp only [LN.blocks, List.mem_cons, List.not_mem_nil, or_false] at hb
  rcases hb with hb | hb | hb
  · exact h.p.lt b hb.symm
  · exact h.k.lt b hb.symm
  · exact h.r.lt b hb.symm
theorem OwnM.weaken (h : OwnM w base v l) (hb : base' ≤ base) : OwnM w base' v l := ⟨own_weaken h.row hb, fun x hx => (h.lists x hx).weaken hb, h.dis⟩
theorem OwnM.lt (h : OwnM w base v l) : ∀ b, some b ∈ (v.ownBlock :: allBlocks l) → base ≤ b ∧ b < w.heap.size := by
  intro b hb
  rcases List.mem_cons.1 hb with hb | hb
  · exact h.row.lt b hb.symm
  · obtain ⟨x, hx, hb⟩ := List.mem_flatMap.1 hb
    exact (h.lists x hx).lt b hb
theorem OwnM.keep (h : OwnM w base v l) (hb : ∀ b, base ≤ b → b < w.heap.size → w'.heap[b]? = w.heap[b]?) : OwnM w' base v l :=
  ⟨own_keep h.row fun b e => hb b (h.row.lt b e).1 (h.row.lt b e).2, fun x hx => (h.lists x hx).keep fun b e => hb b ((h.lists x hx).lt b e).1 ((h.lists x hx).lt b e).2, h.dis⟩
theorem OwnM.below (h : OwnM w base v l) (hb : Below w.heap.size w w') : OwnM w' base v l := h.keep fun b _ h2 => hb.block b h2
theorem OwnM.nil (w : World) (base : Nat) : OwnM w base (.slice none 0 0) [] := ⟨World.ownsRow_nil _ _ _ _, fun _ h => by simp at h, fun b => by simp [allBlocks, Value.ownBlock]⟩
/-- what the call owns reads as a row of nodes -/
theorem OwnM.isRow (h : OwnM w base v l) (hF : ∀ b, base ≤ b → b < w.heap.size → F b) : IsRow 7 ENode w F v (l.map LN.n) := by
  obtain ⟨A, c, e, h1, h2, h3⟩ := IsRow.of_own (F := F) LN.cells_len h.row (own_at h.row hF)
  refine ⟨A, c, by simpa using e, by simpa using h1, h2, fun hn => h3.1 (by simpa using hn), fun i hi => ?_⟩
  have hi' : i < l.length := by simpa using hi
  obtain ⟨cs, hl, hx, hc⟩ := h3.2 i hi'
  refine ⟨cs, hl, ?_, hc⟩
  have ho := h.lists l[i] (List.getElem_mem hi')
  rw [List.getElem_map]
  unfold EFlat at hx
  subst hx
  exact ⟨l[i].p, l[i].k, l[i].r, rfl, IsRow.of_own propCells_len ho.p (own_at ho.p hF), ho.k.isRow hF, IsRow.of_own refCells_len ho.r (own_at ho.r hF)⟩
theorem OwnM.isModel (h : OwnM w base v l) (next : Int) (hF : ∀ b, base ≤ b → b < w.heap.size → F b) : IsModel w F (.agg #[.int .i64 next, v]) ⟨next, l.map LN.n⟩ :=
  ⟨v, rfl, h.isRow hF⟩
end
end Go.Proofs.Ytpjkifbicfcajaa
end
