import Derived.Test.YtmafhaadcjgcbaaRowC
import Derived.Test.YtmafhaadcjgcbaaALentI
import Derived.Lib.SliceRun
import Derived.Test.YtmafhaadcjgcbaaAClone
import Derived.Test.YtmafhaadcjgcbaaRegY
import Derived.Test.YtmafhaadcjgcbaaPastP
import Derived.Lib.QuietBelow
import Derived.Test.YtmafhaadcjgcbaaACheck
set_option linter.unusedSimpArgs false
set_option linter.unusedVariables false
section
/- models that are written over, and a twin half made -/
namespace Go.Proofs.Ytmafhaadcjgcbaa
open Go Go.RowKit

/-! ### Lists that may be written over -/
def WrS (O : Nat → Prop) (size : Nat) (w : World) (A : Option Addr) (n : Nat) : Prop :=
  ∀ i, i < n → ∃ b off, A = some ⟨b, off, none⟩ ∧ O b ∧ b < w.heap.size ∧ ∀ j, j < size → (w.cell? ⟨b, off + i * size + j, none⟩).isSome = true ∧ w.frozen? ⟨b, off + i * size + j, none⟩ = false
def LN.Wr (O : Nat → Prop) (w : World) (x : LN) : Prop :=
  (∃ A c, x.p = .slice A x.n.props.length c ∧ x.n.props.length ≤ maxLen ∧ WrS O 2 w A x.n.props.length) ∧ (∃ A c, x.k = .slice A x.n.kids.length c ∧ x.n.kids.length ≤ maxLen ∧ WrS O 1 w A x.n.kids.length) ∧
    ∃ A c, x.r = .slice A x.n.refs.length c ∧ x.n.refs.length ≤ maxLen ∧ WrS O 2 w A x.n.refs.length
def WrL (O : Nat → Prop) (w : World) (l : List LN) : Prop := ∀ x ∈ l, x.Wr O w
section
variable {O : Nat → Prop} {size n : Nat} {w w' : World} {A : Option Addr}
theorem WrS.set_ (h : WrS O size w A n) (p : Addr) (u : Value) : WrS O size (w.setCell p u) A n := fun i hi => by
  obtain ⟨b, off, e, h1, h2, h4⟩ := h i hi
  refine ⟨b, off, e, h1, by simpa using h2, fun j hj => ⟨?_, by rw [World.frozen?_setCell]; exact (h4 j hj).2⟩⟩
  by_cases hp : p = ⟨b, off + i * size + j, none⟩
  · subst hp; rw [World.cell?_setCell_same' _ _ _ (h4 j hj).1]; rfl
  · rw [World.cell?_setCell_other (h := hp)]; exact (h4 j hj).1
theorem WrS.below (h : WrS O size w A n) (hb : Below w.heap.size w w') : WrS O size w' A n := fun i hi => by
  obtain ⟨b, off, e, h1, h2, h4⟩ := h i hi
  refine ⟨b, off, e, h1, Nat.lt_of_lt_of_le h2 hb.size, fun j hj => ?_⟩
  rw [World.cell?_of_block (hb.block b h2), World.frozen?_of_block (w := w) (a := ⟨b, _, none⟩) (hb.block b h2)]
  exact h4 j hj
theorem LN.Wr.set_ {x : LN} (h : x.Wr O w) (p : Addr) (u : Value) : x.Wr O (w.setCell p u) := by
  obtain ⟨⟨A1, c1, e1, m1, h1⟩, ⟨A2, c2, e2, m2, h2⟩, ⟨A3, c3, e3, m3, h3⟩⟩ := h
  exact ⟨⟨A1, c1, e1, m1, h1.set_ p u⟩, ⟨A2, c2, e2, m2, h2.set_ p u⟩, ⟨A3, c3, e3, m3, h3.set_ p u⟩⟩
theorem LN.Wr.below {x : LN} (h : x.Wr O w) (hb : Below w.heap.size w w') : x.Wr O w' := by
  obtain ⟨⟨A1, c1, e1, m1, h1⟩, ⟨A2, c2, e2, m2, h2⟩, ⟨A3, c3, e3, m3, h3⟩⟩ := h
  exact ⟨⟨A1, c1, e1, m1, h1.below hb⟩, ⟨A2, c2, e2, m2, h2.below hb⟩, ⟨A3, c3, e3, m3, h3.below hb⟩⟩
theorem WrL.set_ {l : List LN} (h : WrL O w l) (p : Addr) (u : Value) : WrL O (w.setCell p u) l := fun x hx => (h x hx).set_ p u
theorem WrL.below {l : List LN} (h : WrL O w l) (hb : Below w.heap.size w w') : WrL O w' l := fun x hx => (h x hx).below hb
theorem WrS.of_own {base : Nat} {e : TypeId} {xs : List Value} {c : Nat} (h : w.ownsRow base e size (.slice A n c) n xs) (hO : ∀ b, (Value.slice A n c).ownBlock = some b → O b) : WrS O size w A n := fun i hi => by
  obtain ⟨g, cap, e0, h1, h2, h3, h4⟩ := own_some h (by omega)
  injection e0 with e1 _ e2
  subst e1; subst e2
  refine ⟨g, 0, rfl, hO g rfl, h4, fun j hj => ?_⟩
  have hlt : i * size + j < n * size := by
    have : (i + 1) * size ≤ n * size := Nat.mul_le_mul_right _ hi
    rw [Nat.add_mul] at this; omega
  rw [Nat.zero_add, own_cell h _ hlt]
  have hl := h.1
  exact ⟨by rw [List.getElem?_eq_getElem (by omega)]; rfl, own_frozen h _⟩
end
theorem own_max {w : World} {base : Nat} {e : TypeId} {size n : Nat} {v : Value} {xs : List Value} (h : w.ownsRow base e size v n xs) : n ≤ maxLen := by
  rcases Nat.eq_zero_or_pos n with h0 | h0
  · omega
  · obtain ⟨g, cap, _, h1, h2, _⟩ := own_some h h0; omega
theorem OwnM.wr {w : World} {base : Nat} {v : Value} {l : List LN} (h : OwnM w base v l) : WrL (fun b => some b ∈ allBlocks l) w l := fun x hx => by
  have ho := h.lists x hx
  obtain ⟨A1, c1, e1⟩ := own_shape ho.p
  obtain ⟨A2, c2, e2⟩ := ho.k.shape
  obtain ⟨A3, c3, e3⟩ := own_shape ho.r
  have hk := ho.k
  unfold OwnI at hk
  have hp := ho.p; have hr := ho.r
  rw [e1] at hp; rw [e2] at hk; rw [e3] at hr
  exact ⟨⟨A1, c1, e1, own_max hp, WrS.of_own hp fun b hb => mem_all hx (by simp [LN.blocks, e1, hb])⟩, ⟨A2, c2, e2, own_max hk, WrS.of_own hk fun b hb => mem_all hx (by simp [LN.blocks, e2, hb])⟩, ⟨A3, c3, e3, own_max hr, WrS.of_own hr fun b hb => mem_all hx (by simp [LN.blocks, e3, hb])⟩⟩
/-- a block of nodes, those from i on as they were -/
def NodesF (w : World) (g : Nat) (ns : List LN) (i : Nat) : Prop :=
  ∃ cs, Blk w g 38 cs ∧ ns.length * 7 ≤ cs.size ∧ ∀ k (h : k < ns.length), i ≤ k → ∀ j, j < 7 → cs[k * 7 + j]? = ns[k].cells[j]?
section
variable {w w' : World} {g i : Nat} {ns : List LN}
theorem NodesF.lt (h : NodesF w g ns i) : g < w.heap.size := let ⟨_, h, _⟩ := h; h.lt
theorem NodesF.far (h : NodesF w g ns i) {p : Addr} (hp : g ≠ p.block) (u : Value) : NodesF (w.setCell p u) g ns i := by
  obtain ⟨cs, h1, h2⟩ := h
  exact ⟨cs, h1.far hp u, h2⟩
theorem NodesF.below {T : Nat} (h : NodesF w g ns i) (hb : Below T w w') (hg : g < T) : NodesF w' g ns i := by
  obtain ⟨cs, h1, h2⟩ := h
  exact ⟨cs, h1.below hb hg, h2⟩
theorem NodesF.next (h : NodesF w g ns i) : NodesF w g ns (i + 1) := by
  obtain ⟨cs, h1, h2, h3⟩ := h
  exact ⟨cs, h1, h2, fun k hk hik => h3 k hk (by omega)⟩
theorem NodesF.put (h : NodesF w g ns i) {q : Nat} (hq : q < i * 7) (u : Value) : NodesF (w.setCell ⟨g, q, none⟩ u) g ns i := by
  obtain ⟨cs, h1, h2, h3⟩ := h
  refine ⟨_, h1.set_ q u, by simpa using h2, fun k hk hik j hj => ?_⟩
  rw [← h3 k hk hik j hj, Array.getElem?_setIfInBounds_ne (by omega)]
theorem NodesF.at_ (h : NodesF w g ns i) (hi : i < ns.length) : (∀ j, j < 7 → w.cell? ⟨g, i * 7 + j, none⟩ = ns[i].cells[j]?) ∧ ∀ j, w.frozen? ⟨g, j, none⟩ = false := by
  obtain ⟨cs, h1, h2, h3⟩ := h
  exact ⟨fun j hj => by rw [h1.cell, h3 i hi (Nat.le_refl _) j hj], fun j => h1.frozen j⟩
end

/-! ### A twin half made: the nodes are there, the lists of the first ones are their own -/
structure HalfM (w : World) (base : Nat) (v : Value) (n : Nat) (l rest : List LN) : Prop where
  row : w.ownsRow base 38 7 v n ((l ++ rest).flatMap LN.cells)
  lists : ∀ x ∈ l, OwnL w base x
  dis : ∀ b, (v.ownBlock :: allBlocks l).count (some b) ≤ 1
section
variable {w w' : World} {base g n cap : Nat} {v : Value} {l rest : List LN}
theorem HalfM.below (h : HalfM w base v n l rest) (hb : Below w.heap.size w w') : HalfM w' base v n l rest :=
  ⟨own_keep h.row fun b e => hb.block b (h.row.lt b e).2, fun x hx => (h.lists x hx).keep fun b e => hb.block b ((h.lists x hx).lt b e).2, h.dis⟩
theorem HalfM.own (h : HalfM w base v n l []) (hn : n = l.length) : OwnM w base v l := by
  subst hn
  exact ⟨by simpa using h.row, h.lists, h.dis⟩
theorem HalfM.gne (h : HalfM w base v n l rest) {x : LN} (hx : x ∈ l) {b : Nat} (hb : some b ∈ x.blocks) : v.ownBlock ≠ some b := by
  intro e
  have h1 := h.dis b
  rw [← e, List.count_cons_self, e] at h1
  have := count_pos (mem_all hx hb)
  omega
theorem HalfM.lt (h : HalfM w base v n l rest) : ∀ b, some b ∈ (v.ownBlock :: allBlocks l) → base ≤ b ∧ b < w.heap.size := by
  intro b hb
  rcases List.mem_cons.1 hb with hb | hb
  · exact h.row.lt b hb.symm
  · obtain ⟨x, hx, hb⟩ := List.mem_flatMap.1 hb
    exact (h.lists x hx).lt b hb
theorem HalfM.cell {x : LN} (h : HalfM w base (.slice (some ⟨g, 0, none⟩) n cap) n l (x :: rest)) (hn : n = (l ++ x :: rest).length) {j : Nat} (hj : j < 7) : w.cell? ⟨g, l.length * 7 + j, none⟩ = x.cells[j]? := by
  have hlt : l.length < (l ++ x :: rest).length := by simp
  have hin : l.length * 7 + 7 ≤ n * 7 := by have : (l.length + 1) * 7 ≤ n * 7 := Nat.mul_le_mul_right _ (by omega); omega
  rw [own_cell h.row _ (by omega), flat_at LN.cells_len _ _ _ hlt hj]
  simp
theorem HalfM.step {x y : LN} (h : HalfM w base (.slice (some ⟨g, 0, none⟩) n cap) n l (x :: rest)) (hn : y.n = x.n) (hy : OwnL w base y) (hd : ∀ b, y.blocks.count (some b) ≤ 1) (hsep : ∀ b, some b ∈ y.blocks → b ≠ g ∧ some b ∉ allBlocks l) (hnl : n = (l ++ x :: rest).length) :
    HalfM (((w.setCell ⟨g, l.length * 7 + 4, none⟩ y.p).setCell ⟨g, l.length * 7 + 5, none⟩ y.k).setCell ⟨g, l.length * 7 + 6, none⟩ y.r) base (.slice (some ⟨g, 0, none⟩) n cap) n (l ++ [y]) rest := by
  have hlt : l.length < (l ++ x :: rest).length := by simp
  have hat : (l ++ x :: rest)[l.length] = x := by simp
  have far : ∀ b, b ≠ g → (((w.setCell ⟨g, l.length * 7 + 4, none⟩ y.p).setCell ⟨g, l.length * 7 + 5, none⟩ y.k).setCell ⟨g, l.length * 7 + 6, none⟩ y.r).heap[b]? = w.heap[b]? := fun b hb =>
    (Below.heap_setCell _ _ _ _ hb).trans ((Below.heap_setCell _ _ _ _ hb).trans (Below.heap_setCell _ _ _ _ hb))
  have hin : l.length * 7 + 7 ≤ n * 7 := by have : (l.length + 1) * 7 ≤ n * 7 := Nat.mul_le_mul_right _ (by omega); omega
  refine ⟨?_, fun z hz => ?_, fun b => ?_⟩
  · have e1 := flat_set LN.cells_len (l ++ x :: rest) l.length 4 hlt (by omega) y.p ⟨x.n, y.p, x.k, x.r⟩ (by rw [hat]; rfl)
    have e2 := flat_set LN.cells_len ((l ++ x :: rest).set l.length ⟨x.n, y.p, x.k, x.r⟩) l.length 5 (by simp) (by omega) y.k ⟨x.n, y.p, y.k, x.r⟩ (by rw [List.getElem_set_self]; rfl)
    have e3 := flat_set LN.cells_len (((l ++ x :: rest).set l.length ⟨x.n, y.p, x.k, x.r⟩).set l.length ⟨x.n, y.p, y.k, x.r⟩) l.length 6 (by simp) (by omega) y.r y (by rw [List.getElem_set_self]; unfold LN.cells nodeCellsA; rw [hn]; rfl)
    have e4 : (((l ++ x :: rest).set l.length ⟨x.n, y.p, x.k, x.r⟩).set l.length ⟨x.n, y.p, y.k, x.r⟩).set l.length y = l ++ [y] ++ rest := by simp
    have r1 := own_set h.row (i := l.length * 7 + 4) (by omega) y.p
    have r2 := own_set r1 (i := l.length * 7 + 5) (by omega) y.k
    have r3 := own_set r2 (i := l.length * 7 + 6) (by omega) y.r
    rw [← e1, ← e2, ← e3, e4] at r3
    exact r3
  · rcases List.mem_append.1 hz with hz | hz
    · exact (h.lists z hz).keep fun b e => far b (fun e2 => h.gne hz e (by rw [e2]; rfl))
    · simp only [List.mem_cons, List.not_mem_nil, or_false] at hz
      subst hz
      exact hy.keep fun b e => far b (hsep b e).1
  · have h1 := h.dis b
    have h2 := hd b
    have e1 : (allBlocks (l ++ [y])).count (some b) = (allBlocks l).count (some b) + y.blocks.count (some b) := by rw [all_append, List.count_append]; simp [allBlocks]
    rw [List.count_cons] at h1 ⊢
    rw [e1]
    by_cases hb : some b ∈ y.blocks
    · obtain ⟨h3, h4⟩ := hsep b hb
      have := count_no h4
      have h5 : ((Value.slice (some ⟨g, 0, none⟩) n cap).ownBlock == some b) = false := beq_eq_false_iff_ne.2 fun e => h3 (by injection e with e; exact e.symm)
      rw [h5]
      simp
      omega
    · have := count_no hb; omega
end
end Go.Proofs.Ytmafhaadcjgcbaa
end
section
namespace Go.Proofs.Ytmafhaadcjgcbaa
open Go Go.RowKit
end Go.Proofs.Ytmafhaadcjgcbaa
end
section
/- history.twin -/
namespace Go.Proofs.Ytmafhaadcjgcbaa
open Go Go.RowKit

end Go.Proofs.Ytmafhaadcjgcbaa
end
section
/- a past that is somebody's; how many are ahead and behind -/
namespace Go.Proofs.Ytmafhaadcjgcbaa
open Go Go.RowKit

end Go.Proofs.Ytmafhaadcjgcbaa
end
section
/- a past that is made, copied; the model that is now -/
namespace Go.Proofs.Ytmafhaadcjgcbaa
open Go Go.RowKit

end Go.Proofs.Ytmafhaadcjgcbaa
end
section
/- a past that is made, or copied -/
namespace Go.Proofs.Ytmafhaadcjgcbaa
open Go Go.RowKit

end Go.Proofs.Ytmafhaadcjgcbaa
end
