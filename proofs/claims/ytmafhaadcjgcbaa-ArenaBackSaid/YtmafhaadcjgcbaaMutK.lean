import Derived.Test.YtmafhaadcjgcbaaMut2
set_option linter.unusedSimpArgs false
set_option linter.unusedVariables false
namespace Go.Proofs.Ytmafhaadcjgcbaa
open Go Go.RowKit

/-! ### Nodes of a model of the call's own, written in -/
theorem set_split {α : Type} {l : List α} {i : Nat} (h : i < l.length) (x : α) : l.set i x = l.take i ++ x :: l.drop (i + 1) ∧ l = l.take i ++ l[i] :: l.drop (i + 1) := by
  refine ⟨List.set_eq_take_append_cons_drop .. |>.trans (if_pos h), ?_⟩
  rw [List.getElem_cons_drop, List.take_append_drop]
theorem all_set_count {l : List LN} {i : Nat} (h : i < l.length) (x : LN) (o : Option Nat) : (allBlocks (l.set i x)).count o + l[i].blocks.count o = (allBlocks l).count o + x.blocks.count o := by
  obtain ⟨e1, e2⟩ := set_split h x
  have c1 : (allBlocks (l.set i x)).count o = (allBlocks (l.take i)).count o + (x.blocks.count o + (allBlocks (l.drop (i + 1))).count o) := by rw [e1, all_append, all_cons, List.count_append, List.count_append]
  have c2 : (allBlocks l).count o = (allBlocks (l.take i)).count o + (l[i].blocks.count o + (allBlocks (l.drop (i + 1))).count o) := by
    conv => lhs; rw [e2]
    rw [all_append, all_cons, List.count_append, List.count_append]
  omega
section
variable {w w' : World} {base g n cap : Nat} {l : List LN}
/-- a node's own cell written anew, its lists as they were -/
theorem OwnM.setHead (h : OwnM w base (.slice (some ⟨g, 0, none⟩) n cap) l) {i : Nat} (hi : i < l.length) {j : Nat} (hj : j < 7) (u : Value) (x : LN) (hc : x.cells = l[i].cells.set j u)
    (hv : x.p = l[i].p ∧ x.k = l[i].k ∧ x.r = l[i].r) (hn : x.n.props = l[i].n.props ∧ x.n.kids = l[i].n.kids ∧ x.n.refs = l[i].n.refs) : OwnM (w.setCell ⟨g, i * 7 + j, none⟩ u) base (.slice (some ⟨g, 0, none⟩) n cap) (l.set i x) := by
  have hnl : n = l.length := by obtain ⟨A, c, e⟩ := own_shape h.row; injection e
  subst hnl
  have hb : x.blocks = l[i].blocks := by unfold LN.blocks; rw [hv.1, hv.2.1, hv.2.2]
  have keep : ∀ y ∈ l, OwnL (w.setCell ⟨g, i * 7 + j, none⟩ u) base y := fun y hy => (h.lists y hy).keep fun b hb => Below.heap_setCell _ _ _ _ (fun e => h.row_ne hy hb (by rw [e]; rfl))
  refine ⟨?_, fun y hy => ?_, fun b => ?_⟩
  · rw [List.length_set, flat_set LN.cells_len l i j hi hj u x hc]
    exact own_set h.row (by have : (i + 1) * 7 ≤ l.length * 7 := Nat.mul_le_mul_right _ hi; omega) u
  · rcases List.mem_or_eq_of_mem_set hy with hy | rfl
    · exact keep y hy
    · have k := keep _ (List.getElem_mem hi)
      exact ⟨by rw [hv.1, hn.1]; exact k.p, by rw [hv.2.1, hn.2.1]; exact k.k, by rw [hv.2.2, hn.2.2]; exact k.r⟩
  · have h1 := h.dis b
    have h2 := all_set_count hi x (some b)
    rw [hb] at h2
    rw [List.count_cons] at h1 ⊢
    omega
/-- a list of a node's put in place of the elder one: 'old' its value, 'new' the new one's -/
theorem OwnM.setList (h : OwnM w base (.slice (some ⟨g, 0, none⟩) n cap) l) {i : Nat} (hi : i < l.length) {j : Nat} (hj : j < 7) (x : LN) (old new : Value) (hg : w.grownBy w' old.ownBlock) (hold : old.ownBlock ∈ l[i].blocks)
    (hnew : new.ownBlock = old.ownBlock ∨ new.ownBlock = none ∨ ∃ b, new.ownBlock = some b ∧ w.heap.size ≤ b)
    (hc : x.cells = l[i].cells.set j new) (hcnt : ∀ o, x.blocks.count o + [old.ownBlock].count o = l[i].blocks.count o + [new.ownBlock].count o)
    (hx : (∀ b, some b ∈ l[i].blocks → some b ≠ old.ownBlock → w'.heap[b]? = w.heap[b]?) → OwnL w' base x) (hxn : ∀ b, some b ∈ x.blocks → b ≠ g) :
    OwnM (w'.setCell ⟨g, i * 7 + j, none⟩ new) base (.slice (some ⟨g, 0, none⟩) n cap) (l.set i x) := by
  have hnl : n = l.length := by obtain ⟨A, c, e⟩ := own_shape h.row; injection e
  subst hnl
  have hrow := h.row.lt g rfl
  have hgo : some g ≠ old.ownBlock := by
    intro e
    exact h.row_ne (List.getElem_mem hi) (b := g) (by rw [e]; exact hold) rfl
  refine ⟨?_, fun y hy => ?_, fun b => ?_⟩
  · rw [List.length_set, flat_set LN.cells_len l i j hi hj new x hc]
    exact own_set (own_keep h.row fun b e => by obtain rfl : g = b := (by injection e); exact hg.block _ hrow.2 hgo) (by have : (i + 1) * 7 ≤ l.length * 7 := Nat.mul_le_mul_right _ hi; omega) new
  · have far : ∀ b, b ≠ g → (w'.setCell ⟨g, i * 7 + j, none⟩ new).heap[b]? = w'.heap[b]? := fun b hb => Below.heap_setCell _ _ _ _ hb
    obtain ⟨q, hq, rfl⟩ := List.getElem_of_mem hy
    rw [List.length_set] at hq
    by_cases hqi : q = i
    · subst hqi
      rw [List.getElem_set_self]
      exact (hx fun b hb hne => hg.block b ((h.lists _ (List.getElem_mem hi)).lt b hb).2 hne).keep fun b hb => far b (hxn b hb)
    · rw [List.getElem_set_ne (by omega)]
      have ho := h.lists l[q] (List.getElem_mem hq)
      refine ho.keep fun b hb => ?_
      have hbg : b ≠ g := fun e => h.row_ne (List.getElem_mem hq) hb (by rw [e]; rfl)
      refine (far b hbg).trans (hg.block b (ho.lt b hb).2 (fun e => ?_))
      -- the block would be both nodes'
      have h1 := h.dis b
      rw [List.count_cons] at h1
      have hb2 : some b ∈ l[i].blocks := by rw [e]; exact hold
      have h2 : 2 ≤ (allBlocks l).count (some b) := by
        have p1 := count_pos hb; have p2 := count_pos hb2
        have key : ∀ (a c : Nat) (ha : a < l.length) (hc : c < l.length), a < c → some b ∈ l[a].blocks → some b ∈ l[c].blocks → 2 ≤ (allBlocks l).count (some b) := by
          intro a c ha hc hac m1 m2
          have e2 := (set_split hc l[c]).2
          have : (allBlocks l).count (some b) = (allBlocks (l.take c)).count (some b) + (l[c].blocks.count (some b) + (allBlocks (l.drop (c + 1))).count (some b)) := by
            conv => lhs; rw [e2]
            rw [all_append, all_cons, List.count_append, List.count_append]
          have q1 : 0 < (allBlocks (l.take c)).count (some b) := count_pos (mem_all (x := l[a]) (by
            rw [List.mem_take_iff_getElem]; exact ⟨a, by omega, rfl⟩) m1)
          have q2 := count_pos m2
          omega
        rcases Nat.lt_or_gt_of_ne hqi with h3 | h3
        · exact key q i hq hi h3 hb hb2
        · exact key i q hi hq h3 hb2 hb
      omega
  · have h1 := h.dis b
    have h2 := all_set_count hi x (some b)
    have h3 := hcnt (some b)
    rw [List.count_cons] at h1 ⊢
    have s1 : ∀ o : Option Nat, [o].count (some b) = if o = some b then 1 else 0 := fun o => by simp [List.count_cons]
    rw [s1, s1] at h3
    rcases hnew with e | e | ⟨b0, e, hb0⟩
    · rw [e] at h3; omega
    · rw [e] at h3
      simp only [reduceCtorEq, if_false] at h3
      omega
    · rw [e] at h3
      by_cases hbb : b0 = b
      · subst hbb
        have n1 : (allBlocks l).count (some b0) = 0 := count_no fun hm => by
          have := (h.lt _ (List.mem_cons_of_mem _ hm)).2; omega
        have n2 : l[i].blocks.count (some b0) = 0 := count_no fun hm => by
          have := ((h.lists _ (List.getElem_mem hi)).lt _ hm).2; omega
        have n3 : ((Value.slice (some ⟨g, 0, none⟩) l.length cap).ownBlock == some b0) = false := by
          apply beq_eq_false_iff_ne.2
          intro e; have : g = b0 := by injection e
          omega
        rw [n3] at h1 ⊢
        simp only [if_true] at h3
        have : (if old.ownBlock = some b0 then 1 else 0) = 0 := if_neg fun e => by
          have := count_pos (e ▸ hold); omega
        simp at h1 ⊢
        omega
      · rw [if_neg (show ¬ (some b0 : Option Nat) = some b from fun e => hbb (by injection e))] at h3
        omega
theorem OwnM.cell (h : OwnM w base (.slice (some ⟨g, 0, none⟩) n cap) l) {i j : Nat} (hi : i < l.length) (hj : j < 7) : w.cell? ⟨g, i * 7 + j, none⟩ = l[i].cells[j]? := by
  have hnl : n = l.length := by obtain ⟨A, c, e⟩ := own_shape h.row; injection e
  subst hnl
  rw [own_cell h.row (i * 7 + j) (by have : (i + 1) * 7 ≤ l.length * 7 := Nat.mul_le_mul_right _ hi; omega), flat_at LN.cells_len l i j hi hj]
theorem OwnM.frozen (h : OwnM w base (.slice (some ⟨g, 0, none⟩) n cap) l) (i : Nat) : w.frozen? ⟨g, i, none⟩ = false := by
  have hnl : n = l.length := by obtain ⟨A, c, e⟩ := own_shape h.row; injection e
  subst hnl
  exact own_frozen h.row i
theorem OwnM.rowOf {A : Option Addr} {F : Nat → Prop} (h : OwnM w base (.slice A n cap) l) (hF : ∀ b, base ≤ b → b < w.heap.size → F b) : RowOf 7 ENode w F A (l.map LN.n) := by
  obtain ⟨A', c', e, _, _, h3⟩ := h.isRow hF
  injection e with e1 _ _
  subst e1
  exact h3
end
/-- all is as it was, but for blocks of O and for what is new -/
structure KeepO (O : Nat → Prop) (w w' : World) : Prop where
  os : w'.os = w.os
  tape : w'.tape = w.tape
  output : w'.output = w.output
  size : w.heap.size ≤ w'.heap.size
  block : ∀ k, k < w.heap.size → ¬ O k → w'.heap[k]? = w.heap[k]?
section
variable {O : Nat → Prop} {a w w' : World}
theorem KeepO.refl (O : Nat → Prop) (w : World) : KeepO O w w := ⟨rfl, rfl, rfl, Nat.le_refl _, fun _ _ _ => rfl⟩
theorem KeepO.below (h : KeepO O a w) (hb : Below w.heap.size w w') : KeepO O a w' :=
  ⟨hb.os.trans h.os, hb.tape.trans h.tape, hb.output.trans h.output, Nat.le_trans h.size hb.size, fun k hk hn => (hb.block k (Nat.lt_of_lt_of_le hk h.size)).trans (h.block k hk hn)⟩
theorem KeepO.alloc (h : KeepO O a w) (o : Obj) : KeepO O a (w.alloc o) := h.below ((Below.refl w.heap.size w).alloc (Nat.le_refl _) o)
theorem KeepO.set_ (h : KeepO O a w) {g : Nat} (hg : O g) (i : Nat) (u : Value) : KeepO O a (w.setCell ⟨g, i, none⟩ u) :=
  ⟨h.os, h.tape, h.output, by simpa using h.size, fun k hk hn => (Below.heap_setCell _ _ _ _ (fun e => hn (by subst e; exact hg))).trans (h.block k hk hn)⟩
theorem KeepO.grown (h : KeepO O a w) {row : Option Nat} (hg : w.grownBy w' row) (hr : ∀ b, row = some b → O b) : KeepO O a w' :=
  ⟨hg.os.trans h.os, hg.tape.trans h.tape, hg.output.trans h.output, Nat.le_trans h.size hg.size, fun k hk hn => (hg.block k (Nat.lt_of_lt_of_le hk h.size) (fun e => hn (hr k e.symm))).trans (h.block k hk hn)⟩
theorem KeepO.toBelow {B : Nat} (h : KeepO O a w) (hB : B ≤ a.heap.size) (hO : ∀ b, O b → B ≤ b) : Below B a w :=
  ⟨h.os, h.tape, h.output, h.size, fun k hk => h.block k (by omega) (fun e => by have := hO k e; omega)⟩
theorem KeepO.blk {g : Nat} {t : TypeId} {cs : Array Value} (h : KeepO O a w) (hb : Blk a g t cs) (hg : ¬ O g) : Blk w g t cs := (h.block g hb.lt hg).trans hb
end
end Go.Proofs.Ytmafhaadcjgcbaa
