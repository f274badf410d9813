import Derived.Test.YtpkapommekkbcaaDoorALentP
import Derived.Test.YtpkapommekkbcaaDoorAHangsP
import Derived.Test.YtpkapommekkbcaaDoorQTail
set_option linter.unusedSimpArgs false
set_option linter.unusedVariables false
namespace Go.Proofs.YtpkapommekkbcaaDoor
open Go Go.RowKit

/-! ### Rows of numbers of the call's own -/
def OwnI (w : World) (base : Nat) (v : Value) (l : List Int) : Prop := w.ownsRow base 3 1 v l.length (l.map (Value.int .i64))
section
variable {w w' : World} {base : Nat} {v : Value} {l : List Int}
theorem OwnI.nil (w : World) (base : Nat) : OwnI w base (.slice none 0 0) [] := World.ownsRow_nil _ _ _ _
theorem OwnI.lt (h : OwnI w base v l) : ∀ g, v.ownBlock = some g → base ≤ g ∧ g < w.heap.size := World.ownsRow.lt h
theorem OwnI.kept {row : Option Nat} (h : OwnI w base v l) (hg : w.grownBy w' row) (hne : v.ownBlock = none ∨ v.ownBlock ≠ row) : OwnI w' base v l := World.ownsRow.kept h hg hne
theorem OwnI.alloc (h : OwnI w base v l) (o : Obj) : OwnI (w.alloc o) base v l := World.ownsRow.alloc h o
theorem OwnI.drew (h : OwnI w base v l) : OwnI w.drew base v l := World.ownsRow.drew h
theorem OwnI.drewN (h : OwnI w base v l) (n : Nat) : OwnI (w.drewN n) base v l := h
theorem OwnI.below (h : OwnI w base v l) (hb : Below w.heap.size w w') : OwnI w' base v l :=
  h.kept (row := none) ⟨hb.os, hb.tape, hb.output, hb.size, fun k hk _ => hb.block k hk⟩ (by cases hv : v.ownBlock <;> simp)
theorem OwnI.far (h : OwnI w base v l) {g i : Nat} (hv : g < base) (u : Value) : OwnI (w.setCell ⟨g, i, none⟩ u) base v l :=
  h.kept (row := some g) ⟨rfl, rfl, rfl, by simp, fun k _ hne => Below.heap_setCell _ _ _ _ (fun e => hne (by rw [e]))⟩ (.inr (fun e => by have := (h.lt g e).1; omega))
theorem OwnI.shape (h : OwnI w base v l) : ∃ A c, v = .slice A l.length c := own_shape h
theorem OwnI.weaken {b' : Nat} (h : OwnI w base v l) (hb : b' ≤ base) : OwnI w b' v l := by
  refine ⟨h.1, ?_⟩
  rcases h.2 with h0 | ⟨g, cap, cur, h1, h2, h3⟩
  · exact .inl h0
  · exact .inr ⟨g, cap, cur, h1, by omega, h3⟩
theorem OwnI.one (w : World) {base : Nat} (hb : base ≤ w.heap.size) (x : Int) : OwnI (w.alloc (.cells #[.int .i64 x] 3)) base (.slice (some ⟨w.heap.size, 0, none⟩) 1 1) [x] :=
  ⟨by simp, .inr ⟨w.heap.size, 1, #[.int .i64 x], rfl, hb, heap_alloc_new w _, Nat.le_refl _, by unfold maxLen; omega, rfl, by simp⟩⟩
theorem intCells_map (l : List Int) : l.flatMap intCells = l.map (Value.int .i64) := by
  induction l with
  | nil => rfl
  | cons x r ih => rw [List.flatMap_cons, ih]; rfl
theorem OwnI.isRow {F : Nat → Prop} (h : OwnI w base v l) (hF : ∀ b, base ≤ b → b < w.heap.size → F b) : IsRow 1 EInt w F v l :=
  IsRow.of_own intCells_len (by rw [intCells_map]; exact h) (own_at h hF)
theorem OwnI.pop {g c n : Nat} {x : Int} (h : OwnI w base (.slice (some ⟨g, 0, none⟩) n c) (l ++ [x])) : n = l.length + 1 ∧ OwnI w base (.slice (some ⟨g, 0, none⟩) l.length c) l := by
  obtain ⟨A, c', e⟩ := h.shape
  injection e with _ e _
  have hn : n = l.length + 1 := by rw [e]; simp
  subst hn
  refine ⟨rfl, by simp, ?_⟩
  rcases h.2 with ⟨e0, _⟩ | ⟨g', cap, cur, e0, hb, hh, hc, hm, hs, ht⟩
  · cases e0
  · injection e0 with e1 _ e2
    injection e1 with e1
    injection e1 with e1
    subst e1; subst e2
    refine .inr ⟨g, c, cur, rfl, hb, hh, by simp at hc; omega, hm, hs, ?_⟩
    have h1 := congrArg (List.take l.length) ht
    rw [List.take_take] at h1
    simp at h1 ⊢
    rw [← h1]
/-- one number more -/
theorem wpList_pushI {ops : Array Oper} {rest : List Oper} {o : Oper} {a : Act} {Q : Exit → Act → World → Prop} (hgd : o.guard = none) (s x : Operand)
    (ho : o.op = .call { callee := .builtin .append, args := #[s, x], argTypes := #[34, 34] }) (hs : a.eval s = v) (hown : OwnI w base v l) (y : Int) (g : Nat) (hx : a.eval x = .slice (some ⟨g, 0, none⟩) 1 1) (hblk : Blk w g 3 #[.int .i64 y])
    (hl : l.length ≤ 1048576) (hbase : base ≤ w.heap.size)
    (h : ∀ A' c' w', OwnI w' base (.slice A' (l.length + 1) c') (l ++ [y]) → w.grownBy w' v.ownBlock → ((Value.slice A' (l.length + 1) c').ownBlock = v.ownBlock ∨ (Value.slice A' (l.length + 1) c').ownBlock = some w.heap.size) → wpList Tryd.prog ops Q rest (a.put o.dst (.slice A' (l.length + 1) c')) w') : wpList Tryd.prog ops Q (o :: rest) a w :=
  wpList_append_from w hgd s x 34 ho base 3 Tryd.underlying34 int_info rfl (by omega) v l.length (l.map (Value.int .i64)) hs hown (some ⟨g, 0, none⟩) 1 1 [.int .i64 y] hx rfl (by simp)
    (fun ad e => by cases e; exact news_cells hblk) (by simp [Value.oneCell']) (by unfold maxLen; omega) (by omega) hbase
    fun A' c' w' h2 h3 h4 => h A' c' w' (by unfold OwnI; simpa using h2) h3 h4
/-- a row of numbers more -/
theorem step_joinI {ops : Array Oper} {o : Oper} {a : Act} {K : Act → World → Prop} {Q : Exit → Act → World → Prop} {G : Prop} (hgd : o.guard = none) (s x : Operand)
    (ho : o.op = .call { callee := .builtin .append, args := #[s, x], argTypes := #[34, 34] }) (hs : a.eval s = v) (hown : OwnI w base v l) (A : Option Addr) (c : Nat) (l2 : List Int) (F : Nat → Prop) (hx : a.eval x = .slice A l2.length c) (hrow : RowOf 1 EInt w F A l2)
    (hl : l.length + l2.length ≤ 1048576) (hbase : base ≤ w.heap.size)
    (h : ∀ A' c' w', OwnI w' base (.slice A' (l.length + l2.length) c') (l ++ l2) → w.grownBy w' v.ownBlock → ((Value.slice A' (l.length + l2.length) c').ownBlock = v.ownBlock ∨ (Value.slice A' (l.length + l2.length) c').ownBlock = some w.heap.size) → K (a.put o.dst (.slice A' (l.length + l2.length) c')) w') :
    if Region.wanted o (yielded ops a.tmps) = true then Oper.wp Tryd.prog o a w K Q else G :=
  step_append_from w hgd s x 34 ho base 3 Tryd.underlying34 int_info rfl (by omega) v l.length (l.map (Value.int .i64)) hs hown A l2.length c (l2.map (Value.int .i64)) hx (by simp) (fun e => by subst e; rw [hrow.none_nil]; rfl)
    (fun ad e => by have := hrow.cellsFrom intCells_len ad e; rw [intCells_map] at this; exact this) (by simp [Value.oneCell']) (by unfold maxLen; omega) (by omega) hbase
    fun A' c' w' h2 h3 h4 => h A' c' w' (by unfold OwnI; simpa using h2) h3 h4
end

/-! ### Below B all is as it was, but for block p -/
structure KB (B p : Nat) (w w' : World) : Prop where
  os : w'.os = w.os
  tape : w'.tape = w.tape
  output : w'.output = w.output
  size : w.heap.size ≤ w'.heap.size
  block : ∀ k, k < B → k ≠ p → w'.heap[k]? = w.heap[k]?
section
variable {B p : Nat} {u w w' : World} {F : Nat → Prop}
theorem KB.refl (B p : Nat) (w : World) : KB B p w w := ⟨rfl, rfl, rfl, Nat.le_refl _, fun _ _ _ => rfl⟩
theorem KB.trans (h : KB B p u w) (k : KB B p w w') : KB B p u w' :=
  ⟨k.os.trans h.os, k.tape.trans h.tape, k.output.trans h.output, Nat.le_trans h.size k.size, fun i hi hn => (k.block i hi hn).trans (h.block i hi hn)⟩
theorem KB.of_below (h : Below B w w') : KB B p w w' := ⟨h.os, h.tape, h.output, h.size, fun k hk _ => h.block k hk⟩
theorem KB.set_ (h : KB B p u w) (i : Nat) (x : Value) : KB B p u (w.setCell ⟨p, i, none⟩ x) :=
  ⟨h.os, h.tape, h.output, by simpa using h.size, fun k hk hn => (Below.heap_setCell w _ x k hn).trans (h.block k hk hn)⟩
theorem KB.below (h : KB B p w w') {b : Nat} (hb : b ≤ B) (hp : b ≤ p) : Below b w w' := ⟨h.os, h.tape, h.output, h.size, fun k hk => h.block k (by omega) (by omega)⟩
theorem KB.blk {g : Nat} {t : TypeId} {cs : Array Value} (h : KB B p w w') (hb : Blk w g t cs) (hg : g < B) (hne : g ≠ p) : Blk w' g t cs := (h.block g hg hne).trans hb
theorem KB.keep (h : KB B p w w') (hF : ∀ b, F b → b < B ∧ b ≠ p) : Keep F w w' := fun q hq => World.cell?_of_block (h.block q.block (hF _ hq).1 (hF _ hq).2)
end
end Go.Proofs.YtpkapommekkbcaaDoor
