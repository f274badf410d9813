import Derived.Test.YtmafhaadcjgcbaaADataA
import Derived.Test.YtmafhaadcjgcbaaMutK
import Derived.Test.YtmafhaadcjgcbaaACheck
import Derived.Test.YtmafhaadcjgcbaaASame
import Derived.Test.YtmafhaadcjgcbaaALentI
import Derived.Lib.SliceRun
import Derived.Test.YtmafhaadcjgcbaaAClone
import Derived.Test.YtmafhaadcjgcbaaRegY
import Derived.Lib.QuietBelow
import Derived.ArgAppend
import Derived.Maps.RangeWalk
import Derived.Maps.OwnSet
import Derived.Sort.OwnSorted
import Derived.Test.YtmafhaadcjgcbaaShelf
import Derived.Sort.OwnSortedInts
import Derived.Test.YtmafhaadcjgcbaaASameOwn
import Derived.Test.YtmafhaadcjgcbaaMut
import Derived.Test.YtmafhaadcjgcbaaRegX
import Derived.Test.YtmafhaadcjgcbaaMut2
import Derived.Test.YtmafhaadcjgcbaaASameRef
import Derived.Test.YtmafhaadcjgcbaaSetP
import Derived.Test.YtmafhaadcjgcbaaAddP
import Derived.Test.YtmafhaadcjgcbaaCopyP
import Derived.Test.YtmafhaadcjgcbaaRemoveP
import Derived.Test.YtmafhaadcjgcbaaAPlace
set_option linter.unusedSimpArgs false
set_option linter.unusedVariables false
section
/- a row of models, a row of acts, that are arguments -/
namespace Go.Proofs.Ytmafhaadcjgcbaa
open Go.ChangeShapes Go.WideShapes Go.ChangeAt Go.RowKit Go.Deep

/-- a model's two cells -/
def EModel (w : World) (F : Nat → Prop) (m : AModel) (cs : List Value) : Prop := ∃ x, cs = [.int .i64 m.next, x] ∧ IsRow 7 ENode w F x m.nodes
theorem EModel.stays : Stays EModel := fun _ _ _ _ _ _ hF hk ⟨x, e, h⟩ => ⟨x, e, h.keep ENode.stays hk hF⟩
/-- one thing that is done -/
structure AAct where
  kind : Int
  model : Int
def actCells (a : AAct) : List Value := [.int .i64 a.kind, .int .i64 a.model]
def EAct : World → (Nat → Prop) → AAct → List Value → Prop := EFlat actCells
theorem EAct.stays : Stays EAct := EFlat.stays _
instance : Inhabited AModel := ⟨⟨0, []⟩⟩
instance : Inhabited AAct := ⟨⟨0, 0⟩⟩
section
variable {H : Type} {enc : TypeId × Value → H} {w : World} {base : Nat} {spare : Nat → Bool} {held : Bool}
end
end Go.Proofs.Ytmafhaadcjgcbaa
end
section
/- a row's cells, element by element; a row of nodes with its lists' values -/
namespace Go.Proofs.Ytmafhaadcjgcbaa
open Go Go.RowKit

section
variable {α : Type} {size : Nat} {E : World → (Nat → Prop) → α → List Value → Prop} {w w' : World} {F F' : Nat → Prop} {A : Option Addr} {l : List α}
theorem flatten_get {css : List (List Value)} (h : ∀ cs ∈ css, cs.length = size) : ∀ j u, css.flatten[j]? = some u → ∃ i, ∃ hi : i < css.length, ∃ k, k < size ∧ j = i * size + k ∧ css[i][k]? = some u := by
  induction css with
  | nil => intro j u h; simp at h
  | cons c r ih =>
    intro j u hu
    rw [List.flatten_cons] at hu
    have hc := h c (by simp)
    by_cases hj : j < size
    · rw [List.getElem?_append_left (by rw [hc]; exact hj)] at hu
      exact ⟨0, by simp, j, hj, by omega, hu⟩
    · rw [List.getElem?_append_right (by rw [hc]; omega), hc] at hu
      obtain ⟨i, hi, k, hk, e, hu⟩ := ih (fun cs hm => h cs (by simp [hm])) _ u hu
      exact ⟨i + 1, by simpa using hi, k, hk, by rw [Nat.add_mul]; omega, hu⟩
theorem RowOf.css (h : RowOf size E w F A l) : ∃ css : List (List Value), css.length = l.length ∧ (∀ cs ∈ css, cs.length = size) ∧ (∀ i (h : i < l.length) (h' : i < css.length), E w F l[i] css[i]) ∧
    ∀ ad, A = some ad → ∀ j u, css.flatten[j]? = some u → w.cell? (ad.add j) = some u := by
  obtain ⟨f, hf⟩ := Go.Deep.choose_lt (n := l.length) (p := fun i (cs : List Value) => cs.length = size ∧ (∀ hi : i < l.length, E w F l[i] cs) ∧ ∀ b off, A = some ⟨b, off, none⟩ → ∀ j, j < size → w.cell? ⟨b, off + i * size + j, none⟩ = cs[j]?) (fun i hi => by
    obtain ⟨cs, h1, h2, h3⟩ := h.2 i hi
    exact ⟨cs, h1, fun _ => h2, h3⟩)
  have hm : ∀ cs ∈ (List.range l.length).map f, cs.length = size := fun cs hcs => by
    obtain ⟨i, hi, rfl⟩ := List.mem_map.1 hcs
    exact (hf i (by simpa using hi)).1
  refine ⟨(List.range l.length).map f, by simp, hm, fun i hi hi' => ?_, fun ad hA j u hu => ?_⟩
  · have := (hf i hi).2.1 hi
    simpa using this
  · obtain ⟨i, hi, k, hk, rfl, hv⟩ := flatten_get hm j u hu
    have hil : i < l.length := by simpa using hi
    obtain ⟨b, off, e, _⟩ := h.1 (by intro hn; subst hn; simp at hil)
    rw [hA] at e; cases e
    rw [add_some, ← Nat.add_assoc, (hf i hil).2.2 b off hA k hk, ← hv]
    simp
end
/-- a node's lists read -/
def LN.Reads (w : World) (F : Nat → Prop) (x : LN) : Prop := IsRow 2 EProp w F x.p x.n.props ∧ IsRow 1 EInt w F x.k x.n.kids ∧ IsRow 2 ERef w F x.r x.n.refs
section
variable {w w' : World} {F F' : Nat → Prop} {A : Option Addr}
theorem LN.Reads.keep {x : LN} (h : x.Reads w F) (hk : Keep F w w') (hF : ∀ b, F b → F' b) : x.Reads w' F' := ⟨h.1.keep EProp.stays hk hF, h.2.1.keep EInt.stays hk hF, h.2.2.keep ERef.stays hk hF⟩
instance : Inhabited LN := ⟨⟨default, .slice none 0 0, .slice none 0 0, .slice none 0 0⟩⟩
end
end Go.Proofs.Ytmafhaadcjgcbaa
end
section
/- pasts: what is done with them, and how they lie in memory -/
namespace Go.Proofs.Ytmafhaadcjgcbaa
open Go Go.RowKit

structure APast where
  ahead : List AModel
  here : AModel
  behind : List AModel
def APast.list (p : APast) : List AModel := p.ahead ++ p.here :: p.behind
section
variable {w w' : World} {F F' : Nat → Prop} {p : Nat} {P : APast}
end
theorem KeepO.keep {O F : Nat → Prop} {w w' : World} (h : KeepO O w w') (hF : ∀ b, F b → b < w.heap.size ∧ ¬ O b) : Keep F w w' := fun q hq => World.cell?_of_block (h.block q.block (hF _ hq).1 (hF _ hq).2)
end Go.Proofs.Ytmafhaadcjgcbaa
end
section
/- models that are written over, and a twin half made -/
namespace Go.Proofs.Ytmafhaadcjgcbaa
open Go Go.RowKit

/-! ### Lists that may be written over -/
def WrS (O : Nat → Prop) (size : Nat) (w : World) (A : Option Addr) (n : Nat) : Prop :=
  ∀ i, i < n → ∃ b off, A = some ⟨b, off, none⟩ ∧ O b ∧ b < w.heap.size ∧ ∀ j, j < size → (w.cell? ⟨b, off + i * size + j, none⟩).isSome = true ∧ w.frozen? ⟨b, off + i * size + j, none⟩ = false
def LN.Wr (O : Nat → Prop) (w : World) (x : LN) : Prop :=
  (∃ A c, x.p = .slice A x.n.props.length c ∧ x.n.props.length ≤ maxLen ∧ WrS O 2 w A x.n.props.length) ∧ (∃ A c, x.k = .slice A x.n.kids.length c ∧ x.n.kids.length ≤ maxLen ∧ WrS O 1 w A x.n.kids.length) ∧
    ∃ A c, x.r = .slice A x.n.refs.length c ∧ x.n.refs.length ≤ maxLen ∧ WrS O 2 w A x.n.refs.length
def WrL (O : Nat → Prop) (w : World) (l : List LN) : Prop := ∀ x ∈ l, x.Wr O w
section
variable {O : Nat → Prop} {size n : Nat} {w w' : World} {A : Option Addr}
theorem WrS.set_ (h : WrS O size w A n) (p : Addr) (u : Value) : WrS O size (w.setCell p u) A n := fun i hi => by
  obtain ⟨b, off, e, h1, h2, h4⟩ := h i hi
  refine ⟨b, off, e, h1, by simpa using h2, fun j hj => ⟨?_, by rw [World.frozen?_setCell]; exact (h4 j hj).2⟩⟩
  by_cases hp : p = ⟨b, off + i * size + j, none⟩
  · subst hp; rw [World.cell?_setCell_same' _ _ _ (h4 j hj).1]; rfl
  · rw [World.cell?_setCell_other (h := hp)]; exact (h4 j hj).1
theorem WrS.below (h : WrS O size w A n) (hb : Below w.heap.size w w') : WrS O size w' A n := fun i hi => by
  obtain ⟨b, off, e, h1, h2, h4⟩ := h i hi
  refine ⟨b, off, e, h1, Nat.lt_of_lt_of_le h2 hb.size, fun j hj => ?_⟩
  rw [World.cell?_of_block (hb.block b h2), World.frozen?_of_block (w := w) (a := ⟨b, _, none⟩) (hb.block b h2)]
  exact h4 j hj
theorem LN.Wr.set_ {x : LN} (h : x.Wr O w) (p : Addr) (u : Value) : x.Wr O (w.setCell p u) := by
  obtain ⟨⟨A1, c1, e1, m1, h1⟩, ⟨A2, c2, e2, m2, h2⟩, ⟨A3, c3, e3, m3, h3⟩⟩ := h
  exact ⟨⟨A1, c1, e1, m1, h1.set_ p u⟩, ⟨A2, c2, e2, m2, h2.set_ p u⟩, ⟨A3, c3, e3, m3, h3.set_ p u⟩⟩
theorem LN.Wr.below {x : LN} (h : x.Wr O w) (hb : Below w.heap.size w w') : x.Wr O w' := by
  obtain ⟨⟨A1, c1, e1, m1, h1⟩, ⟨A2, c2, e2, m2, h2⟩, ⟨A3, c3, e3, m3, h3⟩⟩ := h
  exact ⟨⟨A1, c1, e1, m1, h1.below hb⟩, ⟨A2, c2, e2, m2, h2.below hb⟩, ⟨A3, c3, e3, m3, h3.below hb⟩⟩
theorem WrL.set_ {l : List LN} (h : WrL O w l) (p : Addr) (u : Value) : WrL O (w.setCell p u) l := fun x hx => (h x hx).set_ p u
theorem WrL.below {l : List LN} (h : WrL O w l) (hb : Below w.heap.size w w') : WrL O w' l := fun x hx => (h x hx).below hb
theorem WrS.of_own {base : Nat} {e : TypeId} {xs : List Value} {c : Nat} (h : w.ownsRow base e size (.slice A n c) n xs) (hO : ∀ b, (Value.slice A n c).ownBlock = some b → O b) : WrS O size w A n := fun i hi => by
  obtain ⟨g, cap, e0, h1, h2, h3, h4⟩ := own_some h (by omega)
  injection e0 with e1 _ e2
  subst e1; subst e2
  refine ⟨g, 0, rfl, hO g rfl, h4, fun j hj => ?_⟩
  have hlt : i * size + j < n * size := by
    have : (i + 1) * size ≤ n * size := Nat.mul_le_mul_right _ hi
    rw [Nat.add_mul] at this; omega
  rw [Nat.zero_add, own_cell h _ hlt]
  have hl := h.1
  exact ⟨by rw [List.getElem?_eq_getElem (by omega)]; rfl, own_frozen h _⟩
end
theorem own_max {w : World} {base : Nat} {e : TypeId} {size n : Nat} {v : Value} {xs : List Value} (h : w.ownsRow base e size v n xs) : n ≤ maxLen := by
  rcases Nat.eq_zero_or_pos n with h0 | h0
  · omega
  · obtain ⟨g, cap, _, h1, h2, _⟩ := own_some h h0; omega
theorem OwnM.wr {w : World} {base : Nat} {v : Value} {l : List LN} (h : OwnM w base v l) : WrL (fun b => some b ∈ allBlocks l) w l := fun x hx => by
  have ho := h.lists x hx
  obtain ⟨A1, c1, e1⟩ := own_shape ho.p
  obtain ⟨A2, c2, e2⟩ := ho.k.shape
  obtain ⟨A3, c3, e3⟩ := own_shape ho.r
  have hk := ho.k
  unfold OwnI at hk
  have hp := ho.p; have hr := ho.r
  rw [e1] at hp; rw [e2] at hk; rw [e3] at hr
  exact ⟨⟨A1, c1, e1, own_max hp, WrS.of_own hp fun b hb => mem_all hx (by simp [LN.blocks, e1, hb])⟩, ⟨A2, c2, e2, own_max hk, WrS.of_own hk fun b hb => mem_all hx (by simp [LN.blocks, e2, hb])⟩, ⟨A3, c3, e3, own_max hr, WrS.of_own hr fun b hb => mem_all hx (by simp [LN.blocks, e3, hb])⟩⟩
/-- a block of nodes, those from i on as they were -/
def NodesF (w : World) (g : Nat) (ns : List LN) (i : Nat) : Prop :=
  ∃ cs, Blk w g 38 cs ∧ ns.length * 7 ≤ cs.size ∧ ∀ k (h : k < ns.length), i ≤ k → ∀ j, j < 7 → cs[k * 7 + j]? = ns[k].cells[j]?
section
variable {w w' : World} {g i : Nat} {ns : List LN}
theorem NodesF.lt (h : NodesF w g ns i) : g < w.heap.size := let ⟨_, h, _⟩ := h; h.lt
theorem NodesF.far (h : NodesF w g ns i) {p : Addr} (hp : g ≠ p.block) (u : Value) : NodesF (w.setCell p u) g ns i := by
  obtain ⟨cs, h1, h2⟩ := h
  exact ⟨cs, h1.far hp u, h2⟩
theorem NodesF.below {T : Nat} (h : NodesF w g ns i) (hb : Below T w w') (hg : g < T) : NodesF w' g ns i := by
  obtain ⟨cs, h1, h2⟩ := h
  exact ⟨cs, h1.below hb hg, h2⟩
theorem NodesF.next (h : NodesF w g ns i) : NodesF w g ns (i + 1) := by
  obtain ⟨cs, h1, h2, h3⟩ := h
  exact ⟨cs, h1, h2, fun k hk hik => h3 k hk (by omega)⟩
theorem NodesF.put (h : NodesF w g ns i) {q : Nat} (hq : q < i * 7) (u : Value) : NodesF (w.setCell ⟨g, q, none⟩ u) g ns i := by
  obtain ⟨cs, h1, h2, h3⟩ := h
  refine ⟨_, h1.set_ q u, by simpa using h2, fun k hk hik j hj => ?_⟩
  rw [← h3 k hk hik j hj, Array.getElem?_setIfInBounds_ne (by omega)]
theorem NodesF.at_ (h : NodesF w g ns i) (hi : i < ns.length) : (∀ j, j < 7 → w.cell? ⟨g, i * 7 + j, none⟩ = ns[i].cells[j]?) ∧ ∀ j, w.frozen? ⟨g, j, none⟩ = false := by
  obtain ⟨cs, h1, h2, h3⟩ := h
  exact ⟨fun j hj => by rw [h1.cell, h3 i hi (Nat.le_refl _) j hj], fun j => h1.frozen j⟩
end

/-! ### A twin half made: the nodes are there, the lists of the first ones are their own -/
structure HalfM (w : World) (base : Nat) (v : Value) (n : Nat) (l rest : List LN) : Prop where
  row : w.ownsRow base 38 7 v n ((l ++ rest).flatMap LN.cells)
  lists : ∀ x ∈ l, OwnL w base x
  dis : ∀ b, (v.ownBlock :: allBlocks l).count (some b) ≤ 1
section
variable {w w' : World} {base g n cap : Nat} {v : Value} {l rest : List LN}
theorem HalfM.below (h : HalfM w base v n l rest) (hb : Below w.heap.size w w') : HalfM w' base v n l rest :=
  ⟨own_keep h.row fun b e => hb.block b (h.row.lt b e).2, fun x hx => (h.lists x hx).keep fun b e => hb.block b ((h.lists x hx).lt b e).2, h.dis⟩
theorem HalfM.own (h : HalfM w base v n l []) (hn : n = l.length) : OwnM w base v l := by
  subst hn
  exact ⟨by simpa using h.row, h.lists, h.dis⟩
theorem HalfM.gne (h : HalfM w base v n l rest) {x : LN} (hx : x ∈ l) {b : Nat} (hb : some b ∈ x.blocks) : v.ownBlock ≠ some b := by
  intro e
  have h1 := h.dis b
  rw [← e, List.count_cons_self, e] at h1
  have := count_pos (mem_all hx hb)
  omega
theorem HalfM.lt (h : HalfM w base v n l rest) : ∀ b, some b ∈ (v.ownBlock :: allBlocks l) → base ≤ b ∧ b < w.heap.size := by
  intro b hb
  rcases List.mem_cons.1 hb with hb | hb
  · exact h.row.lt b hb.symm
  · obtain ⟨x, hx, hb⟩ := List.mem_flatMap.1 hb
    exact (h.lists x hx).lt b hb
theorem HalfM.cell {x : LN} (h : HalfM w base (.slice (some ⟨g, 0, none⟩) n cap) n l (x :: rest)) (hn : n = (l ++ x :: rest).length) {j : Nat} (hj : j < 7) : w.cell? ⟨g, l.length * 7 + j, none⟩ = x.cells[j]? := by
  have hlt : l.length < (l ++ x :: rest).length := by simp
  have hin : l.length * 7 + 7 ≤ n * 7 := by have : (l.length + 1) * 7 ≤ n * 7 := Nat.mul_le_mul_right _ (by omega); omega
  rw [own_cell h.row _ (by omega), flat_at LN.cells_len _ _ _ hlt hj]
  simp
theorem HalfM.step {x y : LN} (h : HalfM w base (.slice (some ⟨g, 0, none⟩) n cap) n l (x :: rest)) (hn : y.n = x.n) (hy : OwnL w base y) (hd : ∀ b, y.blocks.count (some b) ≤ 1) (hsep : ∀ b, some b ∈ y.blocks → b ≠ g ∧ some b ∉ allBlocks l) (hnl : n = (l ++ x :: rest).length) :
    HalfM (((w.setCell ⟨g, l.length * 7 + 4, none⟩ y.p).setCell ⟨g, l.length * 7 + 5, none⟩ y.k).setCell ⟨g, l.length * 7 + 6, none⟩ y.r) base (.slice (some ⟨g, 0, none⟩) n cap) n (l ++ [y]) rest := by
  have hlt : l.length < (l ++ x :: rest).length := by simp
  have hat : (l ++ x :: rest)[l.length] = x := by simp
  have far : ∀ b, b ≠ g → (((w.setCell ⟨g, l.length * 7 + 4, none⟩ y.p).setCell ⟨g, l.length * 7 + 5, none⟩ y.k).setCell ⟨g, l.length * 7 + 6, none⟩ y.r).heap[b]? = w.heap[b]? := fun b hb =>
    (Below.heap_setCell _ _ _ _ hb).trans ((Below.heap_setCell _ _ _ _ hb).trans (Below.heap_setCell _ _ _ _ hb))
  have hin : l.length * 7 + 7 ≤ n * 7 := by have : (l.length + 1) * 7 ≤ n * 7 := Nat.mul_le_mul_right _ (by omega); omega
  refine ⟨?_, fun z hz => ?_, fun b => ?_⟩
  · have e1 := flat_set LN.cells_len (l ++ x :: rest) l.length 4 hlt (by omega) y.p ⟨x.n, y.p, x.k, x.r⟩ (by rw [hat]; rfl)
    have e2 := flat_set LN.cells_len ((l ++ x :: rest).set l.length ⟨x.n, y.p, x.k, x.r⟩) l.length 5 (by simp) (by omega) y.k ⟨x.n, y.p, y.k, x.r⟩ (by rw [List.getElem_set_self]; rfl)
    have e3 := flat_set LN.cells_len (((l ++ x :: rest).set l.length ⟨x.n, y.p, x.k, x.r⟩).set l.length ⟨x.n, y.p, y.k, x.r⟩) l.length 6 (by simp) (by omega) y.r y (by rw [List.getElem_set_self]; unfold LN.cells nodeCellsA; rw [hn]; rfl)
    have e4 : (((l ++ x :: rest).set l.length ⟨x.n, y.p, x.k, x.r⟩).set l.length ⟨x.n, y.p, y.k, x.r⟩).set l.length y = l ++ [y] ++ rest := by simp
    have r1 := own_set h.row (i := l.length * 7 + 4) (by omega) y.p
    have r2 := own_set r1 (i := l.length * 7 + 5) (by omega) y.k
    have r3 := own_set r2 (i := l.length * 7 + 6) (by omega) y.r
    rw [← e1, ← e2, ← e3, e4] at r3
    exact r3
  · rcases List.mem_append.1 hz with hz | hz
    · exact (h.lists z hz).keep fun b e => far b (fun e2 => h.gne hz e (by rw [e2]; rfl))
    · simp only [List.mem_cons, List.not_mem_nil, or_false] at hz
      subst hz
      exact hy.keep fun b e => far b (hsep b e).1
  · have h1 := h.dis b
    have h2 := hd b
    have e1 : (allBlocks (l ++ [y])).count (some b) = (allBlocks l).count (some b) + y.blocks.count (some b) := by rw [all_append, List.count_append]; simp [allBlocks]
    rw [List.count_cons] at h1 ⊢
    rw [e1]
    by_cases hb : some b ∈ y.blocks
    · obtain ⟨h3, h4⟩ := hsep b hb
      have := count_no h4
      have h5 : ((Value.slice (some ⟨g, 0, none⟩) n cap).ownBlock == some b) = false := beq_eq_false_iff_ne.2 fun e => h3 (by injection e with e; exact e.symm)
      rw [h5]
      simp
      omega
    · have := count_no hb; omega
end
end Go.Proofs.Ytmafhaadcjgcbaa
end
section
namespace Go.Proofs.Ytmafhaadcjgcbaa
open Go Go.RowKit
end Go.Proofs.Ytmafhaadcjgcbaa
end
section
/- history.twin -/
namespace Go.Proofs.Ytmafhaadcjgcbaa
open Go Go.RowKit

end Go.Proofs.Ytmafhaadcjgcbaa
end
section
/- a past that is somebody's; how many are ahead and behind -/
namespace Go.Proofs.Ytmafhaadcjgcbaa
open Go Go.RowKit

end Go.Proofs.Ytmafhaadcjgcbaa
end
section
/- a past that is made, copied; the model that is now -/
namespace Go.Proofs.Ytmafhaadcjgcbaa
open Go Go.RowKit

end Go.Proofs.Ytmafhaadcjgcbaa
end
section
/- a past that is made, or copied -/
namespace Go.Proofs.Ytmafhaadcjgcbaa
open Go Go.RowKit

end Go.Proofs.Ytmafhaadcjgcbaa
end
section
/- several elements behind a row of the call's own; a row without its first, without its last -/
namespace Go.Proofs.Ytmafhaadcjgcbaa
open Go Go.RowKit

section
variable {α : Type} {size : Nat} {e : TypeId} {E : World → (Nat → Prop) → α → List Value → Prop} {w w' : World} {F F' : Nat → Prop} {base : Nat} {v v' : Value} {l l2 : List α} {P : Program}
theorem OwnRow.many (hE : Stays E) {css : List (List Value)} (h1 : css.length = l.length) (h2 : ∀ cs ∈ css, cs.length = size) (h4 : ∀ i (h : i < l.length) (h' : i < css.length), E w (Oth F w v) l[i] css[i])
    {cs2 : List (List Value)} (k1 : cs2.length = l2.length) (k2 : ∀ cs ∈ cs2, cs.length = size) (k4 : ∀ i (h : i < l2.length) (h' : i < cs2.length), E w (Oth F w v) l2[i] cs2[i])
    (ho : w'.ownsRow base e size v' (l.length + l2.length) (css.flatten ++ cs2.flatten)) (hg : w.grownBy w' v.ownBlock) (hat : v'.ownBlock = v.ownBlock ∨ v'.ownBlock = some w.heap.size) :
    OwnRow size e E F w' base v' (l ++ l2) := by
  have hF : ∀ b, Oth F w v b → Oth F w' v' b := fun b ⟨a1, a2, a3⟩ => ⟨a1, Nat.lt_of_lt_of_le a2 hg.size, by
    rcases hat with e' | e' <;> rw [e']
    · exact a3
    · intro e''; cases e''; omega⟩
  have hK : Keep (Oth F w v) w w' := Keep.grown hg fun b ⟨_, a2, a3⟩ => ⟨a2, a3⟩
  refine ⟨css ++ cs2, by simp [h1, k1], ?_, by simpa using ho, fun i hi hi' => ?_⟩
  · intro c hc
    rcases List.mem_append.1 hc with hc | hc
    · exact h2 c hc
    · exact k2 c hc
  · by_cases hlt : i < l.length
    · rw [List.getElem_append_left hlt, List.getElem_append_left (by omega)]
      exact hE _ _ _ _ _ _ hF hK (h4 i hlt (by omega))
    · rw [List.getElem_append_right (by omega), List.getElem_append_right (by omega)]
      have hi2 : i - l.length < l2.length := by simp at hi; omega
      have := k4 (i - l.length) hi2 (by omega)
      simp only [h1]
      exact hE _ _ _ _ _ _ hF hK this
theorem OwnRow.shape (h : OwnRow size e E F w base v l) : ∃ A c, v = .slice A l.length c := let ⟨_, h⟩ := h.owns; own_shape h
theorem OwnRow.made (t : TypeId) (size : Nat) (w : World) (hb : base ≤ w.heap.size) : OwnRow size t E F (w.alloc (.cells #[] t)) base (.slice (some ⟨w.heap.size, 0, none⟩) 0 0) [] :=
  ⟨[], rfl, fun _ h => by simp at h, World.ownsRow_made (base := base) (e := t) (size := size) w #[] 0 hb (Nat.zero_le _) (by simp), fun i h => absurd h (by simp)⟩
/-- a row of one element, just made -/
theorem OwnRow.one {x : α} {cs : List Value} {g : Nat} {t : TypeId} (hb : Blk w g t cs.toArray) (hg : base ≤ g) (hl : cs.length = size) (hx : E w (Oth F w (.slice (some ⟨g, 0, none⟩) 1 1)) x cs) : OwnRow size t E F w base (.slice (some ⟨g, 0, none⟩) 1 1) [x] := by
  refine ⟨[cs], rfl, fun c hc => by simp at hc; subst hc; exact hl, ⟨by simpa using hl, .inr ⟨g, 1, cs.toArray, rfl, hg, hb, Nat.le_refl _, by unfold maxLen; omega, by simpa using hl, by simp [List.take_of_length_le, hl]⟩⟩, fun i hi hi' => ?_⟩
  have hi0 : i = 0 := by simp at hi; omega
  subst hi0
  exact hx
theorem RowOf.take {A : Option Addr} (h : RowOf size E w F A l) (k : Nat) : RowOf size E w F A (l.take k) := by
  refine ⟨fun hn => h.1 (fun e => hn (by rw [e]; simp)), fun i hi => ?_⟩
  have hil : i < l.length := by rw [List.length_take] at hi; omega
  obtain ⟨cs, h1, h2, h3⟩ := h.2 i hil
  exact ⟨cs, h1, by rw [List.getElem_take]; exact h2, h3⟩
theorem RowOf.tail {b off : Nat} {x : α} (h : RowOf size E w F (some ⟨b, off, none⟩) (x :: l)) : RowOf size E w F (some ⟨b, off + size, none⟩) l := by
  obtain ⟨b', off', e, hb⟩ := h.1 (by simp)
  cases e
  refine ⟨fun _ => ⟨b, off + size, rfl, hb⟩, fun i hi => ?_⟩
  obtain ⟨cs, h1, h2, h3⟩ := h.2 (i + 1) (by simpa using hi)
  refine ⟨cs, h1, by simpa using h2, fun b2 off2 e j hj => ?_⟩
  cases e
  rw [← h3 b off rfl j hj]
  congr 2
  rw [Nat.add_mul]; omega
theorem IsRow.row {A : Option Addr} {n c : Nat} (h : IsRow size E w F (.slice A n c) l) : RowOf size E w F A l := by
  obtain ⟨A', c', e, _, _, h3⟩ := h
  injection e with e1 _ _
  subst e1
  exact h3
end
theorem EModel.one {w : World} {F : Nat → Prop} {m : AModel} {cs : List Value} (h : EModel w F m cs) : ∀ u ∈ cs, u.oneCell' = true := by
  obtain ⟨x, rfl, A, c, rfl, _⟩ := h
  intro u hu
  simp only [List.mem_cons, List.not_mem_nil, or_false] at hu
  rcases hu with rfl | rfl <;> rfl
end Go.Proofs.Ytmafhaadcjgcbaa
end
section
/- the nodes in which two models differ: plain -/
namespace Go.Proofs.Ytmafhaadcjgcbaa
open Go Go.RowKit

end Go.Proofs.Ytmafhaadcjgcbaa
end
section
/- a map of nodes by their numbers -/
namespace Go.Proofs.Ytmafhaadcjgcbaa
open Go Go.RowKit Go.Maps

def kI (id : Int) : Lit := .int .i64 id
theorem kI_ne {a b : Int} (h : a ≠ b) : kI a ≠ kI b := fun e => h (by injection e)
theorem kI_same (a b : Int) : (kI a).sameKey (kI b) = decide (a = b) := by
  by_cases h : a = b
  · subst h; simp [kI, Lit.sameKey]
  · rw [sameKey_ne (kI_ne h)]; simp [h]
/-- the map of a list's nodes, but for some numbers -/
structure MapOf (D : DataW Value) (l : List LN) (dl : List Int) : Prop where
  isMap : IsMap D
  has_ : ∀ id : Int, Maps.has D (kI id) = true ↔ (∃ x ∈ l, x.n.id = id) ∧ id ∉ dl
  at_ : ∀ x ∈ l, x.n.id ∉ dl → ∀ z, D.atKey (kI x.n.id) z = .held (.agg x.cells.toArray)
theorem MapOf.start : MapOf (.map []) [] [] := ⟨isMap_empty, fun id => by simp [Maps.has], fun x hx => by simp at hx⟩
theorem MapOf.put {D : DataW Value} {l : List LN} (h : MapOf D l []) (x : LN) (hx : ∀ y ∈ l, y.n.id ≠ x.n.id) : MapOf (D.put (kI x.n.id) (.held (.agg x.cells.toArray))) (l ++ [x]) [] := by
  refine ⟨h.isMap.put _ _, fun id => ?_, fun y hy _ z => ?_⟩
  · by_cases e : id = x.n.id
    · subst e
      rw [has_put_same h.isMap (show WideAt.IsKeyLit (kI x.n.id) from trivial)]
      simp
    · rw [has_put_other (kI_ne e), h.has_]
      simp only [List.mem_append, List.mem_cons, List.not_mem_nil, or_false, not_false_eq_true, and_true]
      constructor
      · rintro ⟨y, hy, e2⟩; exact ⟨y, .inl hy, e2⟩
      · rintro ⟨y, hy | rfl, e2⟩
        · exact ⟨y, hy, e2⟩
        · exact absurd e2.symm e
  · rcases List.mem_append.1 hy with hy | hy
    · rw [atKey_put_other (kI_ne (hx y hy))]
      exact h.at_ y hy (by simp) z
    · simp only [List.mem_cons, List.not_mem_nil, or_false] at hy
      subst hy
      exact atKey_put_same h.isMap (show WideAt.IsKeyLit (kI y.n.id) from trivial) _ _
/-- the keys that have come -/
def Coll (D : DataW Value) (left : Lit → Bool) (cs : List Int) : Prop := cs.Nodup ∧ ∀ id : Int, id ∈ cs ↔ Maps.has D (kI id) = true ∧ left (kI id) = false
theorem Coll.start (D : DataW Value) : Coll D (Maps.has D) [] := ⟨List.nodup_nil, fun id => by simp⟩
theorem Coll.step {D : DataW Value} {left : Lit → Bool} {cs : List Int} (h : Coll D left cs) {x : Int} (hl : left (kI x) = true) (hd : Maps.has D (kI x) = true) : Coll D (fun z => left z && !z.sameKey (kI x)) (cs ++ [x]) := by
  refine ⟨List.nodup_append.2 ⟨h.1, by simp, fun a ha b hb e => ?_⟩, fun id => ?_⟩
  · simp at hb; subst hb; subst e
    have := ((h.2 a).1 ha).2
    rw [hl] at this; cases this
  · show id ∈ cs ++ [x] ↔ Maps.has D (kI id) = true ∧ (left (kI id) && !(kI id).sameKey (kI x)) = false
    rw [List.mem_append, h.2, kI_same]
    by_cases e : id = x
    · subst e; simp [hd]
    · simp [e]
section
variable {ops : Array Oper} {rest : List Oper} {o : Oper} {a : Act} {Q : Exit → Act → World → Prop}
end
end Go.Proofs.Ytmafhaadcjgcbaa
end
section
/- a list of numbers of the call's own is sorted -/
namespace Go.Proofs.Ytmafhaadcjgcbaa
open Go Go.RowKit Go.Sort

end Go.Proofs.Ytmafhaadcjgcbaa
end
section
/- two nodes are the same, but for their numbers -/
namespace Go.Proofs.Ytmafhaadcjgcbaa
open Go Go.RowKit

end Go.Proofs.Ytmafhaadcjgcbaa
end
section
/- history.Touched -/
namespace Go.Proofs.Ytmafhaadcjgcbaa
open Go Go.RowKit Go.Maps

theorem LN.Reads.rows {w : World} {F : Nat → Prop} {n : ANode} {A B C : Option Addr} {i j k ca cb cc : Nat} (h : LN.Reads w F ⟨n, .slice A i ca, .slice B j cb, .slice C k cc⟩) : RowOf 2 EProp w F A n.props ∧ RowOf 1 EInt w F B n.kids ∧ RowOf 2 ERef w F C n.refs := ⟨IsRow.row h.1, IsRow.row h.2.1, IsRow.row h.2.2⟩
end Go.Proofs.Ytmafhaadcjgcbaa
end
section
namespace Go.Proofs.Ytmafhaadcjgcbaa
open Go Go.RowKit

end Go.Proofs.Ytmafhaadcjgcbaa
end
section
namespace Go.Proofs.Ytmafhaadcjgcbaa
open Go Go.RowKit

end Go.Proofs.Ytmafhaadcjgcbaa
end
section
/- two models that are made, in whatever order memory is laid -/
namespace Go.Proofs.Ytmafhaadcjgcbaa
open Go Go.RowKit

/-! ### Two models that are made, in whatever order memory is laid -/
def zModelT : Array Value := #[.int .i64 0, .slice none 0 0]
structure JT (W0 w : World) (x7 x8 : Option Nat) (vx vy : Option Value) (a b : AModel) : Prop where
  below : Below W0.heap.size W0 w
  b7 : ∀ p, x7 = some p → W0.heap.size ≤ p ∧ Blk w p 24 zModelT
  b8 : ∀ p, x8 = some p → W0.heap.size ≤ p ∧ Blk w p 24 zModelT
  ne : ∀ p q, x7 = some p → x8 = some q → p ≠ q
  mx : ∀ v, vx = some v → ∃ F : Nat → Prop, IsModel w F v a ∧ ∀ c, F c → W0.heap.size ≤ c ∧ c < w.heap.size ∧ x7 ≠ some c ∧ x8 ≠ some c
  my : ∀ v, vy = some v → ∃ F : Nat → Prop, IsModel w F v b ∧ ∀ c, F c → W0.heap.size ≤ c ∧ c < w.heap.size ∧ x7 ≠ some c ∧ x8 ≠ some c
section
variable {W0 w w' : World} {x7 x8 : Option Nat} {vx vy : Option Value} {a b : AModel}
theorem JT.start (W0 : World) (a b : AModel) : JT W0 W0 none none none none a b :=
  ⟨Below.refl _ _, fun _ h => (by cases h), fun _ h => (by cases h), fun _ _ h => (by cases h), fun _ h => (by cases h), fun _ h => (by cases h)⟩
theorem JT.behind (h : JT W0 w x7 x8 vx vy a b) (hb : Below w.heap.size w w') : JT W0 w' x7 x8 vx vy a b := by
  refine ⟨h.below.trans (hb.mono h.below.size), fun p e => ⟨(h.b7 p e).1, (h.b7 p e).2.below hb (h.b7 p e).2.lt⟩, fun p e => ⟨(h.b8 p e).1, (h.b8 p e).2.below hb (h.b8 p e).2.lt⟩, h.ne, fun v e => ?_, fun v e => ?_⟩
  · obtain ⟨F, h1, h2⟩ := h.mx v e
    exact ⟨F, h1.keep (Keep.below hb (fun b hb => (h2 b hb).2.1)) (fun _ h => h), fun c hc => ⟨(h2 c hc).1, Nat.lt_of_lt_of_le (h2 c hc).2.1 hb.size, (h2 c hc).2.2⟩⟩
  · obtain ⟨F, h1, h2⟩ := h.my v e
    exact ⟨F, h1.keep (Keep.below hb (fun b hb => (h2 b hb).2.1)) (fun _ h => h), fun c hc => ⟨(h2 c hc).1, Nat.lt_of_lt_of_le (h2 c hc).2.1 hb.size, (h2 c hc).2.2⟩⟩
/-- behind the stores -/
theorem JT.done {p q : Nat} {nx ny : Int} {sx sy : Value} (h : JT W0 w (some p) (some q) (some (.agg #[.int .i64 nx, sx])) (some (.agg #[.int .i64 ny, sy])) a b) :
    Below W0.heap.size W0 ((((w.setCell ⟨p, 0, none⟩ (.int .i64 nx)).setCell ⟨p, 1, none⟩ sx).setCell ⟨q, 0, none⟩ (.int .i64 ny)).setCell ⟨q, 1, none⟩ sy) ∧
    Blk ((((w.setCell ⟨p, 0, none⟩ (.int .i64 nx)).setCell ⟨p, 1, none⟩ sx).setCell ⟨q, 0, none⟩ (.int .i64 ny)).setCell ⟨q, 1, none⟩ sy) p 24 #[.int .i64 nx, sx] ∧
    Blk ((((w.setCell ⟨p, 0, none⟩ (.int .i64 nx)).setCell ⟨p, 1, none⟩ sx).setCell ⟨q, 0, none⟩ (.int .i64 ny)).setCell ⟨q, 1, none⟩ sy) q 24 #[.int .i64 ny, sy] ∧
    (∃ F : Nat → Prop, IsModel ((((w.setCell ⟨p, 0, none⟩ (.int .i64 nx)).setCell ⟨p, 1, none⟩ sx).setCell ⟨q, 0, none⟩ (.int .i64 ny)).setCell ⟨q, 1, none⟩ sy) F (.agg #[.int .i64 nx, sx]) a ∧ ∀ c, F c → c < w.heap.size) ∧
    (∃ F : Nat → Prop, IsModel ((((w.setCell ⟨p, 0, none⟩ (.int .i64 nx)).setCell ⟨p, 1, none⟩ sx).setCell ⟨q, 0, none⟩ (.int .i64 ny)).setCell ⟨q, 1, none⟩ sy) F (.agg #[.int .i64 ny, sy]) b ∧ ∀ c, F c → c < w.heap.size) := by
  obtain ⟨hp, hbp⟩ := h.b7 p rfl
  obtain ⟨hq, hbq⟩ := h.b8 q rfl
  have hne := h.ne p q rfl rfl
  have hK : ∀ F : Nat → Prop, (∀ c, F c → c ≠ p ∧ c ≠ q) → Keep F w ((((w.setCell ⟨p, 0, none⟩ (.int .i64 nx)).setCell ⟨p, 1, none⟩ sx).setCell ⟨q, 0, none⟩ (.int .i64 ny)).setCell ⟨q, 1, none⟩ sy) := fun F hF r hr => World.cell?_of_block
    ((((Below.heap_setCell _ _ _ _ (by show r.block ≠ q; exact (hF _ hr).2)).trans (Below.heap_setCell _ _ _ _ (by show r.block ≠ q; exact (hF _ hr).2))).trans (Below.heap_setCell _ _ _ _ (by show r.block ≠ p; exact (hF _ hr).1))).trans (Below.heap_setCell _ _ _ _ (by show r.block ≠ p; exact (hF _ hr).1)))
  refine ⟨(((h.below.setCell (p := ⟨p, 0, none⟩) hp _).setCell (p := ⟨p, 1, none⟩) hp _).setCell (p := ⟨q, 0, none⟩) hq _).setCell (p := ⟨q, 1, none⟩) hq _, ?_, ?_, ?_, ?_⟩
  · have := (((hbp.set_ 0 (.int .i64 nx)).set_ 1 sx).far (p := ⟨q, 0, none⟩) hne (.int .i64 ny)).far (p := ⟨q, 1, none⟩) hne sy
    simpa [zModelT] using this
  · have := (((hbq.far (p := ⟨p, 0, none⟩) (Ne.symm hne) (.int .i64 nx)).far (p := ⟨p, 1, none⟩) (Ne.symm hne) sx).set_ 0 (.int .i64 ny)).set_ 1 sy
    simpa [zModelT] using this
  · obtain ⟨F, h1, h2⟩ := h.mx _ rfl
    exact ⟨F, h1.keep (hK F (fun c hc => ⟨fun e => (h2 c hc).2.2.1 (by rw [e]), fun e => (h2 c hc).2.2.2 (by rw [e])⟩)) (fun _ h => h), fun c hc => (h2 c hc).2.1⟩
  · obtain ⟨F, h1, h2⟩ := h.my _ rfl
    exact ⟨F, h1.keep (hK F (fun c hc => ⟨fun e => (h2 c hc).2.2.1 (by rw [e]), fun e => (h2 c hc).2.2.2 (by rw [e])⟩)) (fun _ h => h), fun c hc => (h2 c hc).2.1⟩
end
end Go.Proofs.Ytmafhaadcjgcbaa
end
section
/- the document's Touched -/
namespace Go.Proofs.Ytmafhaadcjgcbaa
open Go Go.RowKit

section
variable {a b : List ANode} {i k : Nat} {o T : List Int} {x y : ANode}
end

end Go.Proofs.Ytmafhaadcjgcbaa
end
section
/- models are many, or not -/
namespace Go.Proofs.Ytmafhaadcjgcbaa
open Go Go.RowKit

end Go.Proofs.Ytmafhaadcjgcbaa
end
section
/- the law of the nodes in which two models differ -/
namespace Go.Proofs.Ytmafhaadcjgcbaa
open Go Go.RowKit

end Go.Proofs.Ytmafhaadcjgcbaa
end
section
/- the nodes in which two of three models differ: plain -/
namespace Go.Proofs.Ytmafhaadcjgcbaa
open Go Go.RowKit

section
variable {a b c : AModel}
end
end Go.Proofs.Ytmafhaadcjgcbaa
end
section
/- what an edit touches, in plain Lean: a property put or dropped keeps a model right and touches its node at most; a node more keeps it right and touches itself and its parent -/
namespace Go.Proofs.Ytmafhaadcjgcbaa
open Go Go.RowKit

section
variable {α : Type} {f : α → ByteArray} {l : List α} {t : ByteArray} {y : α}
theorem srtN_pair : SrtN f l ↔ l.Pairwise (fun a b => lessS (f a) (f b) = true) :=
  ⟨fun h => List.pairwise_iff_getElem.2 fun i j hi hj hij => h i j hi hj hij, fun h i j hi hj hij => List.pairwise_iff_getElem.1 h i j hi hj hij⟩
theorem setK_srt (h : SrtN f l) (hy : f y = t) : SrtN f (setK f l t y) := by
  have hc := srtN_cut (t := t) h
  have hp := srtN_pair.1 h
  have hr : ∀ b ∈ keepN f (l.drop (cutK f l t)) t, lessS t (f b) = true := fun b hb => by
    obtain ⟨hb1, hb2⟩ := List.mem_filter.1 hb
    obtain ⟨i, hi, rfl⟩ := List.getElem_of_mem hb1
    rw [List.getElem_drop] at hb2 ⊢
    have h1 := hc.2.2 (cutK f l t + i) (by rw [List.length_drop] at hi; omega) (by omega)
    rcases lessS_tri (f (l[cutK f l t + i]'(by rw [List.length_drop] at hi; omega))) t with e | e | e
    · rw [h1] at e; cases e
    · rw [eqT_yes.2 e] at hb2; cases hb2
    · exact e
  refine srtN_pair.2 (List.pairwise_append.2 ⟨hp.sublist (List.take_sublist _ _), List.pairwise_cons.2 ⟨fun b hb => by rw [hy]; exact hr b hb, (hp.sublist (List.drop_sublist _ _)).sublist List.filter_sublist⟩, fun a ha b hb => ?_⟩)
  obtain ⟨i, hi, rfl⟩ := List.getElem_of_mem ha
  rw [List.getElem_take]
  have h1 := hc.2.1 i (by rw [List.length_take] at hi; omega) (by rw [List.length_take] at hi; omega)
  rcases List.mem_cons.1 hb with e | e
  · rw [e, hy]; exact h1
  · exact lessS_trans h1 (hr b e)
theorem setK_mem {x : α} (h : x ∈ setK f l t y) : x ∈ l ∨ x = y := by
  rcases List.mem_append.1 h with h | h
  · exact .inl (List.mem_of_mem_take h)
  · rcases List.mem_cons.1 h with h | h
    · exact .inr h
    · exact .inl (List.mem_of_mem_drop (List.mem_filter.1 h).1)
end
theorem propsOK_iff {l : List AProp} : PropsOK l ↔ (∀ x ∈ l, wordA x.name = true ∧ x.value.size ≤ 4096) ∧ SrtN AProp.name l := by
  refine ⟨fun h => ⟨fun x hx => ?_, props_srt h⟩, fun h i hi => ⟨(h.1 _ (List.getElem_mem hi)).1, (h.1 _ (List.getElem_mem hi)).2, fun h0 => ?_⟩⟩
  · obtain ⟨i, hi, rfl⟩ := List.getElem_of_mem hx
    exact ⟨(h i hi).1, (h i hi).2.1⟩
  · rw [geS_less, h.2 (i - 1) i (by omega) hi (by omega)]; rfl
theorem props_put {l : List AProp} {nm val : ByteArray} (h : PropsOK l) (hw : wordA nm = true) (hv : val.size ≤ 4096) : PropsOK (setK AProp.name l nm ⟨nm, val⟩) := by
  rw [propsOK_iff] at h ⊢
  refine ⟨fun x hx => ?_, setK_srt h.2 rfl⟩
  rcases setK_mem hx with e | e
  · exact h.1 x e
  · subst e; exact ⟨hw, hv⟩
theorem refsOK_mono {l : List ARef} {n n' : Int} (h : RefsOK n l) (hn : n ≤ n') : RefsOK n' l := fun i hi => ⟨(h i hi).1, (h i hi).2.1, by have := (h i hi).2.2.1; omega, (h i hi).2.2.2⟩
theorem refsOK_nil (n : Int) : RefsOK n [] := fun i hi => absurd hi (Nat.not_lt_zero _)
theorem propsOK_nil : PropsOK [] := fun i hi => absurd hi (Nat.not_lt_zero _)
theorem word_some {s : ByteArray} (h : wordA s = true) : s.size ≠ 0 := fun e => by
  have : s.data.toList = [] := by
    have : s.data.toList.length = 0 := e
    exact List.length_eq_zero_iff.1 this
  unfold wordA strip at h
  rw [this] at h
  cases h
theorem up_of_dep {m : AModel} (hi : ∀ i, IdAt m i) : ∀ (f d : Nat) (x : ANode), x ∈ m.nodes → Dep m d x.id → d ≤ f → Up m f x := by
  intro f
  induction f with
  | zero => intro d x _ hd h; have := hd.pos; omega
  | succ f ih =>
    intro d x hx hd h
    rcases hd.next hi hx with ⟨h0, _⟩ | ⟨z, hz, e, h2, hz2⟩
    · exact .inl h0
    · exact .inr ⟨z, hz, e, ih (d - 1) z hz (by rw [e]; exact hz2) (by omega)⟩
/-- each node has its like in the other model -/
def Like (m b : AModel) : Prop := ∀ x ∈ m.nodes, ∃ y ∈ b.nodes, y.id = x.id ∧ y.parent = x.parent
theorem Like.kid {m b : AModel} (h : Like m b) {id k : Int} (hk : KidAt m id k) : KidAt b id k := by
  obtain ⟨x, hx, e1, e2⟩ := hk
  obtain ⟨y, hy, e3, e4⟩ := h x hx
  exact ⟨y, hy, e3.trans e1, e4.trans e2⟩
theorem Like.up {m b : AModel} (h : Like m b) : ∀ (f : Nat) (x : ANode), Up m f x → ∀ x', x'.parent = x.parent → Up b f x' := by
  intro f
  induction f with
  | zero => intro x hu; exact hu.elim
  | succ f ih =>
    intro x hu x' e
    rcases hu with h0 | ⟨z, hz, e2, hz2⟩
    · exact .inl (e.trans h0)
    · obtain ⟨y, hy, e3, e4⟩ := h z hz
      exact .inr ⟨y, hy, by rw [e3, e2, e], ih z hz2 y e4⟩
theorem cnt_set {l : List ANode} {j : Nat} (hj : j < l.length) (y : ANode) (id : Int) : cnt (l.set j y) id + l[j].kids.count id = cnt l id + y.kids.count id := by
  have e : l = l.take j ++ l[j] :: l.drop (j + 1) := by rw [← List.drop_eq_getElem_cons hj, List.take_append_drop]
  have e2 : l.set j y = l.take j ++ y :: l.drop (j + 1) := by rw [List.set_eq_take_append_cons_drop, if_pos hj]
  have h1 : cnt l id = cnt (l.take j) id + (l[j].kids.count id + cnt (l.drop (j + 1)) id) := by
    unfold cnt
    conv => lhs; rw [e]
    rw [List.flatMap_append, List.flatMap_cons, List.count_append, List.count_append]
  have h2 : cnt (l.set j y) id = cnt (l.take j) id + (y.kids.count id + cnt (l.drop (j + 1)) id) := by
    unfold cnt
    rw [e2, List.flatMap_append, List.flatMap_cons, List.count_append, List.count_append]
  omega
section
variable {m : AModel} {j : Nat}
theorem set_check (h : CheckM m) (hj : j < m.nodes.length) {y : ANode} (e1 : y.id = m.nodes[j].id) (e2 : y.parent = m.nodes[j].parent) (e3 : y.role = m.nodes[j].role) (e4 : y.kids = m.nodes[j].kids) (e5 : y.concept = m.nodes[j].concept) (hp : PropsOK y.props) (hr : RefsOK m.next y.refs) : CheckM ⟨m.next, m.nodes.set j y⟩ := by
  obtain ⟨⟨⟨h1, h2, h3⟩, h4⟩, h5, h6, h7, h8⟩ := h
  have hget : ∀ i (hi : i < (m.nodes.set j y).length), (m.nodes.set j y)[i].id = (m.nodes[i]'(by rw [List.length_set] at hi; exact hi)).id := fun i hi => by
    rw [List.getElem_set]
    split
    · rename_i e; subst e; exact e1
    · rfl
  have hmem : ∀ x ∈ m.nodes.set j y, ∃ z ∈ m.nodes, x.id = z.id ∧ x.parent = z.parent ∧ x.kids = z.kids ∧ (x = z ∨ (x = y ∧ z = m.nodes[j])) := fun x hx => by
    rcases List.mem_or_eq_of_mem_set hx with e | e
    · exact ⟨x, e, rfl, rfl, rfl, .inl rfl⟩
    · subst e; exact ⟨m.nodes[j], List.getElem_mem hj, e1, e2, e4, .inr ⟨rfl, rfl⟩⟩
  have hcnt : ∀ id, cnt (m.nodes.set j y) id = cnt m.nodes id := fun id => by
    have := cnt_set hj y id
    rw [e4] at this; omega
  have hlike : Like m ⟨m.next, m.nodes.set j y⟩ := fun x hx => by
    obtain ⟨i, hi, rfl⟩ := List.getElem_of_mem hx
    refine ⟨(m.nodes.set j y)[i]'(by rw [List.length_set]; exact hi), List.getElem_mem _, hget i _, ?_⟩
    rw [List.getElem_set]
    split
    · rename_i e; subst e; exact e2
    · rfl
  refine ⟨⟨⟨h1, h2, by show (m.nodes.set j y).length ≤ _; rw [List.length_set]; exact h3⟩, fun i hi => ?_⟩, fun x hx => ?_, fun x hx k hk => ?_, fun x hx => ?_, fun x hx => ?_⟩
  · have hi' : i < m.nodes.length := by have : i < (m.nodes.set j y).length := hi; rw [List.length_set] at this; exact this
    refine ⟨by rw [hget i hi]; exact (h4 i hi').1, by rw [hget i hi]; exact (h4 i hi').2.1, fun h0 => ?_⟩
    rw [hget i hi, hget (i - 1) (by have : i < (m.nodes.set j y).length := hi; omega)]
    exact (h4 i hi').2.2 h0
  · obtain ⟨z, hz, _, _, _, e | ⟨e, e'⟩⟩ := hmem x hx
    · subst e
      obtain ⟨a1, a2, a3, a4, a5, a6⟩ := h5 x hz
      exact ⟨a1, a2, a3, by show _ ≤ (m.nodes.set j y).length; rw [List.length_set]; exact a4, a5, a6⟩
    · subst e
      obtain ⟨a1, a2, a3, a4, a5, a6⟩ := h5 _ (List.getElem_mem hj)
      exact ⟨by rw [e5]; exact a1, by rw [e2, e3]; exact a2, by rw [e3]; exact a3, by show _ ≤ (m.nodes.set j x).length; rw [List.length_set, e4]; exact a4, hp, hr⟩
  · obtain ⟨z, hz, f1, _, f3, _⟩ := hmem x hx
    rw [f3] at hk
    rw [f1]
    exact hlike.kid (h6 z hz k hk)
  · obtain ⟨z, hz, f1, f2, _, _⟩ := hmem x hx
    refine ⟨fun e => ?_, fun e => ?_⟩
    · show cnt (m.nodes.set j y) x.id = 0
      rw [hcnt, f1]; exact (h7 z hz).1 (f2 ▸ e)
    · show cnt (m.nodes.set j y) x.id = 1
      rw [hcnt, f1]; exact (h7 z hz).2 (f2 ▸ e)
  · obtain ⟨z, hz, _, f2, _, _⟩ := hmem x hx
    exact hlike.up 64 z (h8 z hz) x f2
theorem put_check (h : CheckM m) (hj : j < m.nodes.length) {nm val : ByteArray} (hw : wordA nm = true) (hv : val.size ≤ 4096) : CheckM ⟨m.next, m.nodes.set j (putN nm val m.nodes[j])⟩ :=
  set_check h hj rfl rfl rfl rfl rfl (props_put (h.2.1 _ (List.getElem_mem hj)).2.2.2.2.1 hw hv) (h.2.1 _ (List.getElem_mem hj)).2.2.2.2.2
/-- a node more, under p, or none -/
theorem grow_check (h : CheckM m) {concept role : ByteArray} (hc : wordA concept = true) (hlen : m.nodes.length ≤ 4095) (hnx : m.next ≤ 1048576) {L : List ANode} (hL : L.length = m.nodes.length)
    (hs : ∀ i (hi : i < L.length) (hi' : i < m.nodes.length), L[i].id = m.nodes[i].id ∧ L[i].parent = m.nodes[i].parent ∧ L[i].role = m.nodes[i].role ∧ L[i].concept = m.nodes[i].concept ∧ L[i].props = m.nodes[i].props ∧ L[i].refs = m.nodes[i].refs ∧ L[i].kids.length ≤ m.nodes[i].kids.length + 1)
    (p : Int) (hpr : p = 0 ↔ role.size = 0) (hw : role.size ≠ 0 → wordA role = true)
    (hk : ∀ i (hi : i < L.length) (hi' : i < m.nodes.length), ∀ k ∈ L[i].kids, k ∈ m.nodes[i].kids ∨ (k = m.next ∧ p = m.nodes[i].id))
    (hcnt : ∀ id, cnt L id = cnt m.nodes id + if id = m.next ∧ p ≠ 0 then 1 else 0)
    (hup : p = 0 ∨ ∃ i, ∃ hi : i < m.nodes.length, m.nodes[i].id = p ∧ Up m 63 m.nodes[i]) : CheckM ⟨m.next + 1, L ++ [⟨m.next, concept, p, role, [], [], []⟩]⟩ := by
  obtain ⟨⟨⟨h1, h2, h3⟩, h4⟩, h5, h6, h7, h8⟩ := h
  obtain ⟨n0, hn0⟩ : ∃ n : ANode, n = ⟨m.next, concept, p, role, [], [], []⟩ := ⟨_, rfl⟩
  rw [← hn0]
  have n1 : n0.id = m.next := by rw [hn0]
  have n2 : n0.parent = p := by rw [hn0]
  have n3 : n0.kids = [] := by rw [hn0]
  have hlt : ∀ x ∈ m.nodes, x.id < m.next := fun x hx => by
    obtain ⟨i, hi, rfl⟩ := List.getElem_of_mem hx
    exact (h4 i hi).2.1
  have hlike : Like m ⟨m.next + 1, L ++ [n0]⟩ := fun x hx => by
    obtain ⟨i, hi, rfl⟩ := List.getElem_of_mem hx
    exact ⟨L[i]'(by omega), List.mem_append_left _ (List.getElem_mem _), (hs i (by omega) hi).1, (hs i (by omega) hi).2.1⟩
  have hmem : ∀ x ∈ L ++ [n0], (∃ i, ∃ hi : i < L.length, ∃ _ : i < m.nodes.length, x = L[i]) ∨ x = n0 := fun x hx => by
    rcases List.mem_append.1 hx with hx | hx
    · obtain ⟨i, hi, rfl⟩ := List.getElem_of_mem hx
      exact .inl ⟨i, hi, by omega, rfl⟩
    · exact .inr (List.mem_singleton.1 hx)
  have hct : ∀ id, cnt (L ++ [n0]) id = cnt L id := fun id => by unfold cnt; simp [List.flatMap_append, n3]
  have hold : ∀ x ∈ m.nodes, cnt (L ++ [n0]) x.id = cnt m.nodes x.id := fun x hx => by
    rw [hct, hcnt, if_neg (fun e => by have := hlt x hx; omega)]; rfl
  refine ⟨⟨⟨by show (1 : Int) ≤ m.next + 1; omega, by show m.next + 1 ≤ _; omega, by show (L ++ [n0]).length ≤ _; simp; omega⟩, fun i hi => ?_⟩, fun x hx => ?_, fun x hx k hkk => ?_, fun x hx => ?_, fun x hx => ?_⟩
  · have hi : i < (L ++ [n0]).length := hi
    simp only [List.length_append, List.length_singleton] at hi
    by_cases hi' : i < L.length
    · have e := hs i hi' (by omega)
      have hz := h4 i (by omega)
      refine ⟨?_, ?_, fun h0 => ?_⟩
      · show 1 ≤ ((L ++ [n0])[i]'_).id
        rw [List.getElem_append_left hi', e.1]; exact hz.1
      · show ((L ++ [n0])[i]'_).id < m.next + 1
        rw [List.getElem_append_left hi', e.1]; have := hz.2.1; omega
      · show ((L ++ [n0])[i - 1]'_).id < ((L ++ [n0])[i]'_).id
        rw [List.getElem_append_left hi', List.getElem_append_left (show i - 1 < L.length by omega), e.1, (hs (i - 1) (by omega) (by omega)).1]
        exact hz.2.2 h0
    · have hiL : i = L.length := by omega
      subst hiL
      refine ⟨?_, ?_, fun h0 => ?_⟩
      · show 1 ≤ ((L ++ [n0])[L.length]'_).id
        rw [List.getElem_concat_length rfl, n1]; exact h1
      · show ((L ++ [n0])[L.length]'_).id < m.next + 1
        rw [List.getElem_concat_length rfl, n1]; omega
      · show ((L ++ [n0])[L.length - 1]'_).id < ((L ++ [n0])[L.length]'_).id
        rw [List.getElem_concat_length rfl, List.getElem_append_left (show L.length - 1 < L.length by omega), n1, (hs (L.length - 1) (by omega) (by omega)).1]
        exact hlt _ (List.getElem_mem _)
  · rcases hmem x hx with ⟨i, hi, hi', rfl⟩ | rfl
    · obtain ⟨a1, a2, a3, a4, a5, a6⟩ := h5 _ (List.getElem_mem hi')
      obtain ⟨b1, b2, b3, b4, b5, b6, b7⟩ := hs i hi hi'
      exact ⟨by rw [b4]; exact a1, by rw [b2, b3]; exact a2, by rw [b3]; exact a3, by show _ ≤ (L ++ [n0]).length; simp; omega, by rw [b5]; exact a5, by rw [b6]; exact refsOK_mono a6 (by show m.next ≤ m.next + 1; omega)⟩
    · subst hn0
      exact ⟨hc, hpr, hw, Nat.zero_le _, propsOK_nil, refsOK_nil _⟩
  · rcases hmem x hx with ⟨i, hi, hi', rfl⟩ | rfl
    · rw [(hs i hi hi').1]
      rcases hk i hi hi' k hkk with e | ⟨e, e'⟩
      · exact hlike.kid (h6 _ (List.getElem_mem hi') k e)
      · exact ⟨n0, List.mem_append_right _ (List.mem_singleton_self _), n1.trans e.symm, n2.trans e'⟩
    · rw [n3] at hkk; cases hkk
  · rcases hmem x hx with ⟨i, hi, hi', rfl⟩ | rfl
    · have e := hs i hi hi'
      refine ⟨fun e0 => ?_, fun e0 => ?_⟩
      · show cnt (L ++ [n0]) L[i].id = 0
        rw [e.1, hold _ (List.getElem_mem hi')]; exact (h7 _ (List.getElem_mem hi')).1 (e.2.1 ▸ e0)
      · show cnt (L ++ [n0]) L[i].id = 1
        rw [e.1, hold _ (List.getElem_mem hi')]; exact (h7 _ (List.getElem_mem hi')).2 (e.2.1 ▸ e0)
    · have hz : cnt m.nodes m.next = 0 := List.count_eq_zero.2 fun hc => by
        obtain ⟨z, hz, hkz⟩ := List.mem_flatMap.1 hc
        obtain ⟨u, hu, e, _⟩ := h6 z hz _ hkz
        have := hlt u hu; omega
      refine ⟨fun e0 => ?_, fun e0 => ?_⟩
      · show cnt (L ++ [x]) x.id = 0
        rw [hct, n1, hcnt, hz, if_neg (fun e => e.2 (n2 ▸ e0))]
      · show cnt (L ++ [x]) x.id = 1
        rw [hct, n1, hcnt, hz, if_pos ⟨rfl, n2 ▸ e0⟩]
  · rcases hmem x hx with ⟨i, hi, hi', rfl⟩ | rfl
    · exact hlike.up 64 _ (h8 _ (List.getElem_mem hi')) _ (hs i hi hi').2.1
    · rcases hup with e | ⟨i, hi, e, hu⟩
      · exact .inl (n2.trans e)
      · exact .inr ⟨L[i]'(by omega), List.mem_append_left _ (List.getElem_mem _), by rw [(hs i (by omega) hi).1, e, n2], hlike.up 63 _ hu _ (hs i (by omega) hi).2.1⟩
theorem addRoot_check (h : CheckM m) {concept : ByteArray} (hc : wordA concept = true) (hlen : m.nodes.length ≤ 4095) (hnx : m.next ≤ 1048576) : CheckM (addRoot m concept) :=
  grow_check h hc hlen hnx (L := m.nodes) rfl (fun i hi hi' => ⟨rfl, rfl, rfl, rfl, rfl, rfl, Nat.le_succ _⟩) 0 ⟨fun _ => rfl, fun _ => rfl⟩ (fun e => absurd rfl e) (fun i hi hi' k hk => .inl hk) (fun id => by rw [if_neg (fun e => e.2 rfl)]; rfl) (.inl rfl)
theorem addKid_check (h : CheckM m) (hj : j < m.nodes.length) {concept role : ByteArray} (hc : wordA concept = true) (hw : wordA role = true) (hlen : m.nodes.length ≤ 4095) (hnx : m.next ≤ 1048576) {d : Nat} (hd : Dep m d m.nodes[j].id) (h64 : d ≤ 63) (i : Nat) : CheckM (addKid m j m.nodes[j] i concept role) := by
  have hid : 1 ≤ m.nodes[j].id := (h.1.2 j hj).1
  refine grow_check h hc hlen hnx (L := m.nodes.set j { m.nodes[j] with kids := insAt m.nodes[j].kids i m.next }) (List.length_set ..) (fun i' hi hi' => ?_) m.nodes[j].id ⟨fun e => by omega, fun e => absurd e (word_some hw)⟩ (fun _ => hw) (fun i' hi hi' k hk => ?_) (fun id => ?_) (.inr ⟨j, hj, rfl, up_of_dep h.1.2 63 d _ (List.getElem_mem hj) hd h64⟩)
  · rw [List.getElem_set]
    split
    · rename_i e; subst e
      refine ⟨rfl, rfl, rfl, rfl, rfl, rfl, ?_⟩
      show (insAt m.nodes[j].kids i m.next).length ≤ _
      unfold insAt
      simp only [List.length_append, List.length_cons, List.length_take, List.length_drop]
      omega
    · exact ⟨rfl, rfl, rfl, rfl, rfl, rfl, Nat.le_succ _⟩
  · rw [List.getElem_set] at hk
    split at hk
    · rename_i e; subst e
      rcases List.mem_append.1 (show k ∈ (m.nodes[j].kids.take i) ++ m.next :: m.nodes[j].kids.drop i from hk) with e | e
      · exact .inl (List.mem_of_mem_take e)
      · rcases List.mem_cons.1 e with e | e
        · exact .inr ⟨e, rfl⟩
        · exact .inl (List.mem_of_mem_drop e)
    · exact .inl hk
  · have e := cnt_set hj { m.nodes[j] with kids := insAt m.nodes[j].kids i m.next } id
    have e2 : (insAt m.nodes[j].kids i m.next).count id = m.nodes[j].kids.count id + if id = m.next ∧ m.nodes[j].id ≠ 0 then 1 else 0 := by
      unfold insAt
      conv => rhs; rw [← List.take_append_drop i m.nodes[j].kids]
      rw [List.count_append, List.count_append, List.count_cons]
      by_cases hh : id = m.next
      · subst hh
        rw [if_pos (by simp), if_pos ⟨rfl, by omega⟩]; omega
      · rw [if_neg (by simpa using fun e => hh e.symm), if_neg (fun e => hh e.1)]; omega
    have e3 : cnt (m.nodes.set j { m.nodes[j] with kids := insAt m.nodes[j].kids i m.next }) id + m.nodes[j].kids.count id = cnt m.nodes id + (insAt m.nodes[j].kids i m.next).count id := e
    rw [e2] at e3
    omega
/-! ### What is touched -/
end
end Go.Proofs.Ytmafhaadcjgcbaa
end
section
/- a model stays right behind a move, in plain Lean -/
namespace Go.Proofs.Ytmafhaadcjgcbaa
open Go Go.RowKit

/-! ### how often a number is a kid, behind an edit -/
theorem cnt_nil (k : Int) : cnt [] k = 0 := rfl
theorem cnt_map {l : List ANode} {g : ANode → ANode} {k : Int} (h : ∀ z ∈ l, (g z).kids.count k = z.kids.count k) : cnt (l.map g) k = cnt l k := by
  induction l with
  | nil => rfl
  | cons z r ih => rw [List.map_cons, cnt_cons, cnt_cons, h z (List.mem_cons_self ..), ih (fun y hy => h y (List.mem_cons_of_mem _ hy))]
theorem insAt_count (l : List Int) (q : Nat) (x k : Int) : (insAt l q x).count k = l.count k + if x = k then 1 else 0 := by
  unfold insAt
  rw [List.count_append, List.count_cons]
  have := congrArg (List.count k) (List.take_append_drop q l)
  rw [List.count_append] at this
  simp only [beq_iff_eq]
  omega
theorem cnt_place (ns : List ANode) {id p : Int} (role : ByteArray) (q : Nat) (hne : p ≠ id) (k : Int) : cnt (placeN ns id p role q) k = cnt ns k + if id = k then (ns.filter fun z => z.id == p).length else 0 := by
  unfold placeN
  induction ns with
  | nil => simp [cnt_nil]
  | cons z r ih =>
    rw [List.map_cons, cnt_cons, cnt_cons, ih]
    by_cases h1 : z.id = id
    · have h2 : (z.id == p) = false := beq_eq_false_iff_ne.2 (fun e => hne (e.symm.trans h1))
      rw [if_pos h1, List.filter_cons_of_neg (by rw [h2]; simp)]
      show z.kids.count k + _ = _
      omega
    · rw [if_neg h1]
      by_cases h2 : z.id = p
      · rw [if_pos h2, List.filter_cons_of_pos (by simp [h2]), List.length_cons]
        show (insAt z.kids q id).count k + _ = _
        rw [insAt_count]
        split <;> omega
      · rw [if_neg h2, List.filter_cons_of_neg (by simp [h2])]
        omega
theorem ids_nodup {ns : List ANode} (h : SrtB ns) : (ns.map (·.id)).Nodup := List.pairwise_iff_getElem.2 fun i j hi hj hij e => by
  rw [List.getElem_map, List.getElem_map] at e
  have := srtB_inj h (by simpa using hi) (by simpa using hj) e
  omega
theorem one_id {ns : List ANode} (h : SrtB ns) {z : ANode} (hz : z ∈ ns) : (ns.filter fun y => y.id == z.id).length = 1 := by
  have h1 : (ns.map (·.id)).count z.id = 1 := by
    have a := List.nodup_iff_count.1 (ids_nodup h) z.id
    have b := List.count_pos_iff.2 (List.mem_map_of_mem (f := (·.id)) hz)
    omega
  rw [← h1, List.count, List.countP_map, List.countP_eq_length_filter]
  rfl
theorem no_id {ns : List ANode} {p : Int} (h : ∀ z ∈ ns, z.id ≠ p) : (ns.filter fun y => y.id == p).length = 0 := by
  rw [List.filter_eq_nil_iff.2 (fun z hz => by simp [h z hz])]; rfl
/-! ### depths -/
/-- the same nodes, by number and parent, but below one -/
theorem dep_aside {m b : AModel} {S : Int → Prop} (hg : ∀ z ∈ m.nodes, ¬ S z.id → ∃ y ∈ b.nodes, y.id = z.id ∧ y.parent = z.parent) (hs : ∀ z ∈ m.nodes, S z.parent → S z.id) {d : Nat} {i : Int} (hd : Dep m d i) : ¬ S i → Dep b d i := by
  induction hd with
  | root z hz h0 =>
    intro hn
    obtain ⟨y, hy, e1, e2⟩ := hg z hz hn
    rw [← e1]; exact .root y hy (by rw [e2]; exact h0)
  | kid d z hz hp _ ih =>
    intro hn
    obtain ⟨y, hy, e1, e2⟩ := hg z hz hn
    rw [← e1]
    exact .kid d y hy (by rw [e2]; exact hp) (by rw [e2]; exact ih (fun h => hn (hs z hz h)))

theorem hung {m : AModel} (h : CheckM m) {z : ANode} (hz : z ∈ m.nodes) (hp : z.parent ≠ 0) : ∃ y ∈ m.nodes, y.id = z.parent ∧ z.id ∈ y.kids := by
  have h1 := (h.2.2.2.1 z hz).2 hp
  have h2 : z.id ∈ m.nodes.flatMap ANode.kids := List.count_pos_iff.1 (by unfold cnt at h1; omega)
  obtain ⟨y, hy, hk⟩ := List.mem_flatMap.1 h2
  obtain ⟨w, hw, e1, e2⟩ := h.2.2.1 y hy z.id hk
  have := node_inj h.1.2 hw hz e1
  subst this
  exact ⟨y, hy, e2.symm, hk⟩
/-- what stands at a node or below it -/
def InT (m : AModel) (x : ANode) (i : Int) : Prop := i ∈ ksL m x.id
theorem inT_kid {m : AModel} (h : CheckM m) {x : ANode} (hx : x ∈ m.nodes) {z : ANode} (hz : z ∈ m.nodes) (hp : InT m x z.parent) : InT m x z.id := by
  have h0 : z.parent ≠ 0 := fun e => by
    obtain ⟨y, hy, e2⟩ := ks_node h.tree hx hp
    have := id_pos h.1.2 hy
    omega
  obtain ⟨y, hy, e, hk⟩ := hung h hz h0
  exact List.mem_cons_of_mem _ (ks_kids h.tree hx hy (by rw [e]; exact hp) hk)
theorem placeN_ids (ns : List ANode) (id p : Int) (role : ByteArray) (q : Nat) : (placeN ns id p role q).map (·.id) = ns.map (·.id) := by
  unfold placeN
  rw [List.map_map]
  apply List.map_congr_left
  intro y _
  show (if y.id = id then _ else _ : ANode).id = y.id
  split
  · rfl
  · split <;> rfl
theorem rootE_none {role : ByteArray} {a : Int} (h : rootE role a = 0) : role.size = 0 := by
  unfold rootE at h
  split at h
  · exact ‹_ ∧ _›.1
  · cases h
open Classical in
theorem moveE_zero {m : AModel} {id p a : Int} {role : ByteArray} (h : moveE m id p role a = 0) : CheckM m ∧ (p ≠ 0 → wordA role = true) ∧ (∃ x ∈ m.nodes, x.id = id ∧ nodeOf m id = x) ∧ (p ≠ 0 → ∃ y ∈ m.nodes, y.id = p) ∧ p ≠ id ∧ p ∉ belowL m id ∧ goalE (mu m (nodeOf m id)) p role a (dN m p) (heightN m id : Nat) = 0 := by
  by_cases hc : CheckM m
  · by_cases hw : p ≠ 0 → wordA role = true
    · by_cases hn : atI m.nodes id < 0 ∨ (p ≠ 0 ∧ atI m.nodes p < 0)
      · rw [moveE_node hc hw hn] at h; cases h
      · by_cases hl : p = id ∨ p ∈ belowL m id
        · rw [moveE_loop hc hw hn hl] at h; cases h
        · rw [moveE_goal hc hw hn hl] at h
          have find : ∀ k, ¬ atI m.nodes k < 0 → ∃ y ∈ m.nodes, y.id = k := fun k hk => by
            rcases atI_cases m.nodes k with ⟨j, hj, hj1, hj2⟩ | ⟨hj1, hj2⟩
            · exact ⟨m.nodes[j], List.getElem_mem hj, hj1⟩
            · exact absurd (by rw [hj2]; omega) hk
          obtain ⟨x, hx, e⟩ := find id (fun e => hn (.inl e))
          exact ⟨hc, hw, ⟨x, hx, e, by rw [← e]; exact hc.tree.nodeOf hx⟩, fun hp => find p (fun e => hn (.inr ⟨hp, e⟩)), fun e => hl (.inl e), fun e => hl (.inr e), h⟩
    · have hp : p ≠ 0 := fun e => hw (fun h => absurd e h)
      have hw2 : wordA role = false := by
        cases e : wordA role with
        | false => rfl
        | true => exact absurd (fun _ => e) hw
      rw [moveE_word hc hp hw2] at h; cases h
  · rw [moveE_check hc] at h; cases h

theorem most_ge {m : AModel} : ∀ {l : List Int} {d : Nat} {k : Int}, k ∈ l → dN m k ≤ mostTo m d l
  | c :: r, d, k, hk => by
    rcases List.mem_cons.1 hk with e | e
    · subst e; exact Nat.le_trans (Nat.le_max_right d (dN m k)) (mostTo_ge m r (max d (dN m k)))
    · exact most_ge (l := r) (d := max d (dN m c)) e
/-- a subtree moved: its nodes stand as deep below the new place as they stood below the old one -/
theorem dep_moved {m b : AModel} (h : CheckM m) {x : ANode} (hx : x ∈ m.nodes) {dx dn : Nat} (hdx : Dep m dx x.id) (hn : Dep b dn x.id) (hg : ∀ z ∈ m.nodes, z.id ≠ x.id → ∃ y ∈ b.nodes, y.id = z.id ∧ y.parent = z.parent) :
    ∀ k ∈ ksL m x.id, ∃ e, Dep m (dx + e) k ∧ Dep b (dn + e) k := by
  have key : ∀ z ∈ m.nodes, z.id ∈ ksL m x.id → (∃ e, Dep m (dx + e) z.id ∧ Dep b (dn + e) z.id) → ∀ k ∈ belowL m z.id, ∃ e, Dep m (dx + e) k ∧ Dep b (dn + e) k := by
    refine h.tree.induct fun z hz ih hin ⟨e, h1, h2⟩ k hk => ?_
    rw [h.tree.below_eq hz] at hk
    obtain ⟨c, hc, hk⟩ := List.mem_flatMap.1 hk
    obtain ⟨y, hy, rfl, e2, e3⟩ := h.tree.kid hz hc
    have hyb : y.id ∈ belowL m x.id := ks_kids h.tree hx hz hin hc
    have hne : y.id ≠ x.id := fun e4 => h.tree.not_below hx (by have h9 := hyb; rw [e4] at h9; exact h9)
    obtain ⟨y', hy', e5, e6⟩ := hg y hy hne
    have g1 : Dep m (dx + (e + 1)) y.id := .kid (dx + e) y hy e3 (by rw [e2]; exact h1)
    have g2 : Dep b (dn + (e + 1)) y.id := by rw [← e5]; exact .kid (dn + e) y' hy' (by rw [e6]; exact e3) (by rw [e6, e2]; exact h2)
    rcases List.mem_cons.1 hk with e7 | e7
    · rw [e7]; exact ⟨e + 1, g1, g2⟩
    · exact ih y hy hc (List.mem_cons_of_mem _ hyb) ⟨e + 1, g1, g2⟩ k e7
  intro k hk
  rcases List.mem_cons.1 hk with e | e
  · rw [e]; exact ⟨0, hdx, hn⟩
  · exact key x hx (List.mem_cons_self ..) ⟨0, hdx, hn⟩ k e

theorem goal_high {m : AModel} (hFm : Fam m) {p : Int} {role : ByteArray} {a : Int} {d high : Int} (hp : p ≠ 0) (hy : ∃ y ∈ m.nodes, y.id = p) (h : goalE m p role a d high = 0) : d + high ≤ 64 := by
  obtain ⟨y, hy, rfl⟩ := hy
  rw [goalE_kid hFm hy hp] at h
  unfold kidE at h
  split at h
  · split at h
    · cases h
    · omega
  · cases h
theorem mu_nodup {m : AModel} (h : CheckM m) {x : ANode} : ∀ y ∈ (mu m x).nodes, y.kids.Nodup := fun y hy => by
  obtain ⟨z, hz, rfl⟩ := List.mem_map.1 hy
  have hn := h.tree.kids_nodup hz
  split
  · exact List.Nodup.sublist List.filter_sublist hn
  · exact hn
theorem mu_cnt {m : AModel} {x : ANode} {k : Int} (hk : k ≠ x.id) : cnt (mu m x).nodes k = cnt m.nodes k := by
  show cnt (unhangN m.nodes x.parent x.id) k = _
  unfold unhangN
  refine cnt_map fun z _ => ?_
  split
  · show (z.kids.filter _).count k = _
    exact List.count_filter (by simpa using hk)
  · rfl
theorem insAt_mem {l : List Int} {q : Nat} {y k : Int} (h : k ∈ insAt l q y) : k = y ∨ k ∈ l := by
  rcases List.mem_append.1 h with h | h
  · exact .inr (List.mem_of_mem_take h)
  · rcases List.mem_cons.1 h with h | h
    · exact .inl h
    · exact .inr (List.mem_of_mem_drop h)
theorem insAt_length (l : List Int) (q : Nat) (y : Int) : (insAt l q y).length = l.length + 1 := by
  unfold insAt
  rw [List.length_append, List.length_cons]
  have := congrArg List.length (List.take_append_drop q l)
  rw [List.length_append] at this
  omega
theorem move_check {m : AModel} {id p a : Int} {role : ByteArray} (hE : moveE m id p role a = 0) : CheckM ⟨m.next, moveL m id p role a⟩ := by
  obtain ⟨h, hw, ⟨x, hx, rfl, hxo⟩, hpy, hne, hnb, hg⟩ := moveE_zero hE
  rw [hxo] at hg
  obtain ⟨q, hq⟩ : ∃ q, (iOf (mu m x) p role a).toNat = q := ⟨_, rfl⟩
  have hL : moveL m x.id p role a = placeN (mu m x).nodes x.id p role q := by unfold moveL; rw [hxo, hq]
  rw [hL]
  have hs1 := mu_srt (x := x) h
  have hids : (placeN (mu m x).nodes x.id p role q).map (·.id) = m.nodes.map (·.id) := (placeN_ids _ _ _ _ _).trans (mu_ids2 m x)
  have hlen : (placeN (mu m x).nodes x.id p role q).length = m.nodes.length := by rw [placeN_len, mu_len]
  have hii := idAt_congr (m' := ⟨m.next, placeN (mu m x).nodes x.id p role q⟩) h.1.2 rfl hids
  -- the nodes: each stems from one
  let g : ANode → ANode := fun z => if z.id = x.id then { z with parent := p, role := role } else if z.id = p then { z with kids := insAt z.kids q x.id } else z
  have himg : ∀ z1 ∈ (mu m x).nodes, g z1 ∈ placeN (mu m x).nodes x.id p role q := fun z1 hz1 => List.mem_map.2 ⟨z1, hz1, rfl⟩
  have hgid : ∀ z1, (g z1).id = z1.id := fun z1 => by show (if _ then _ else _ : ANode).id = _; split; rfl; split <;> rfl
  have hgpar : ∀ z1, z1.id ≠ x.id → (g z1).parent = z1.parent := fun z1 hz => by show (if _ then _ else _ : ANode).parent = _; rw [if_neg hz]; split <;> rfl
  have hlike : ∀ z ∈ m.nodes, z.id ≠ x.id → ∃ y ∈ placeN (mu m x).nodes x.id p role q, y.id = z.id ∧ y.parent = z.parent := fun z hz hzx => by
    obtain ⟨y, hy, e1, e2⟩ := mu_node (x := x) hz
    exact ⟨g y, himg y hy, by rw [hgid, e1], by rw [hgpar y (by rw [e1]; exact hzx), e2]⟩
  have hxl : ∃ y ∈ placeN (mu m x).nodes x.id p role q, y.id = x.id ∧ y.parent = p := by
    obtain ⟨y, hy, e1, e2⟩ := mu_node (x := x) hx
    exact ⟨g y, himg y hy, by rw [hgid, e1], by show (if _ then _ else _ : ANode).parent = _; rw [if_pos e1]⟩
  have hw2 : p ≠ 0 → role.size ≠ 0 := fun hp => word_some (hw hp)
  have hr0 : p = 0 → role.size = 0 := fun hp => by subst hp; rw [goalE_root] at hg; exact rootE_none hg
  have hnk := mu_nokid (x := x) h hx
  refine ⟨⟨⟨h.1.1.1, h.1.1.2.1, by show (placeN _ _ _ _ _).length ≤ _; rw [hlen]; exact h.1.1.2.2⟩, hii⟩, fun y hy => ?_, fun y hy k hk => ?_, fun y hy => ?_, fun y hy => ?_⟩
  · obtain ⟨z1, hz1, rfl⟩ := List.mem_map.1 (show y ∈ placeN (mu m x).nodes x.id p role q from hy)
    obtain ⟨z, hz, e1, e2, e3, e4, e5, e6, hk, hkl, _⟩ := mu_mem hz1
    obtain ⟨a1, a2, a3, a4, a5, a6⟩ := h.2.1 z hz
    by_cases c1 : z1.id = x.id
    · rw [if_pos c1]
      refine ⟨by show wordA z1.concept = true; rw [e4]; exact a1, ⟨hr0, fun hs => ?_⟩, fun hs => hw (fun e => hs (hr0 e)), ?_, by show PropsOK z1.props; rw [e5]; exact a5, by show RefsOK m.next z1.refs; rw [e6]; exact a6⟩
      · by_cases hp : p = 0
        · exact hp
        · exact absurd hs (hw2 hp)
      · show z1.kids.length ≤ (placeN _ _ _ _ _).length; rw [hlen]; omega
    · rw [if_neg c1]
      by_cases c2 : z1.id = p
      · rw [if_pos c2]
        refine ⟨by show wordA z1.concept = true; rw [e4]; exact a1, by show z1.parent = 0 ↔ z1.role.size = 0; rw [e2, e3]; exact a2, by show z1.role.size ≠ 0 → wordA z1.role = true; rw [e3]; exact a3, ?_, by show PropsOK z1.props; rw [e5]; exact a5, by show RefsOK m.next z1.refs; rw [e6]; exact a6⟩
        show (insAt z1.kids q x.id).length ≤ (placeN _ _ _ _ _).length
        rw [hlen, insAt_length]
        have hnd : (x.id :: z1.kids).Nodup := List.nodup_cons.2 ⟨hnk z1 hz1, mu_nodup h z1 hz1⟩
        have := len_le (L := m.nodes.map (·.id)) hnd (fun k hk2 => by
          rcases List.mem_cons.1 hk2 with e | e
          · rw [e]; exact List.mem_map_of_mem hx
          · have := mu_closed (x := x) h z1 hz1 k e
            rw [mu_ids2] at this; exact this)
        simpa using this
      · rw [if_neg c2]
        exact ⟨by rw [e4]; exact a1, by rw [e2, e3]; exact a2, by rw [e3]; exact a3, by show z1.kids.length ≤ (placeN _ _ _ _ _).length; rw [hlen]; omega, by rw [e5]; exact a5, by show RefsOK m.next z1.refs; rw [e6]; exact a6⟩
  · obtain ⟨z1, hz1, rfl⟩ := List.mem_map.1 (show y ∈ placeN (mu m x).nodes x.id p role q from hy)
    obtain ⟨z, hz, e1, _, _, _, _, _, hk1, _, _⟩ := mu_mem hz1
    have old : ∀ k ∈ z1.kids, KidAt ⟨m.next, placeN (mu m x).nodes x.id p role q⟩ z1.id k := fun k hk => by
      obtain ⟨w, hw1, f1, f2⟩ := h.2.2.1 z hz k (hk1 k hk)
      have hkx : k ≠ x.id := fun e => hnk z1 hz1 (by rw [← e]; exact hk)
      obtain ⟨y', hy', f3, f4⟩ := hlike w hw1 (by rw [f1]; exact hkx)
      exact ⟨y', hy', f3.trans f1, by rw [f4, f2, e1]⟩
    by_cases c1 : z1.id = x.id
    · rw [if_pos c1] at hk ⊢; exact old k hk
    · rw [if_neg c1] at hk ⊢
      by_cases c2 : z1.id = p
      · rw [if_pos c2] at hk ⊢
        rcases insAt_mem hk with e | e
        · obtain ⟨y', hy', f3, f4⟩ := hxl
          exact ⟨y', hy', by rw [e]; exact f3, by rw [f4]; exact c2.symm⟩
        · exact old k e
      · rw [if_neg c2] at hk ⊢; exact old k hk
  · obtain ⟨z1, hz1, rfl⟩ := List.mem_map.1 (show y ∈ placeN (mu m x).nodes x.id p role q from hy)
    obtain ⟨z, hz, e1, e2, _⟩ := mu_mem hz1
    have hid := hgid z1
    have hcp := cnt_place (mu m x).nodes role q hne z1.id
    show ((g z1).parent = 0 → cnt (placeN (mu m x).nodes x.id p role q) (g z1).id = 0) ∧ ((g z1).parent ≠ 0 → cnt (placeN (mu m x).nodes x.id p role q) (g z1).id = 1)
    rw [hid, hcp]
    by_cases c1 : z1.id = x.id
    · have hpar : (g z1).parent = p := by show (if _ then _ else _ : ANode).parent = _; rw [if_pos c1]
      rw [hpar, if_pos c1.symm, c1, cnt_zero hnk]
      refine ⟨fun hp => ?_, fun hp => ?_⟩
      · rw [no_id (fun y2 hy2 e => by
          obtain ⟨i, hi, rfl⟩ := List.getElem_of_mem hy2
          have := (hs1.2 i hi).1
          omega)]
      · obtain ⟨y0, hy0, e0⟩ := hpy hp
        obtain ⟨y1, hy1, f1, _⟩ := mu_node (x := x) hy0
        rw [← e0, ← f1, one_id hs1 hy1]
    · rw [hgpar z1 c1, if_neg (fun e => c1 e.symm), mu_cnt c1, e2, e1]
      exact h.2.2.2.1 z hz
  · obtain ⟨z1, hz1, rfl⟩ := List.mem_map.1 (show y ∈ placeN (mu m x).nodes x.id p role q from hy)
    obtain ⟨z, hz, e1, _⟩ := mu_mem hz1
    have hid := hgid z1
    have aside : ∀ {d : Nat} {i : Int}, Dep m d i → ¬ InT m x i → Dep ⟨m.next, placeN (mu m x).nodes x.id p role q⟩ d i := fun hd hn =>
      dep_aside (S := InT m x) (fun w hw1 hn2 => hlike w hw1 (fun e => hn2 (by rw [e]; exact List.mem_cons_self ..))) (fun w hw1 => inT_kid h hx hw1) hd hn
    obtain ⟨d, hd6, hd⟩ := h.tree.dep z hz
    have : ∃ d', d' ≤ 64 ∧ Dep ⟨m.next, placeN (mu m x).nodes x.id p role q⟩ d' z.id := by
      by_cases hin : InT m x z.id
      · obtain ⟨dx, hdx6, hdx⟩ := h.tree.dep x hx
        have hh := height_le h hx
        have hst : ∃ dn, Dep ⟨m.next, placeN (mu m x).nodes x.id p role q⟩ dn x.id ∧ dn + heightN m x.id ≤ 65 := by
          obtain ⟨y', hy', f3, f4⟩ := hxl
          by_cases hp : p = 0
          · exact ⟨1, by have g := Dep.root (m := ⟨m.next, placeN (mu m x).nodes x.id p role q⟩) y' hy' (by rw [f4]; exact hp); rw [f3] at g; exact g, by omega⟩
          · obtain ⟨y0, hy0, e0⟩ := hpy hp
            obtain ⟨dp, _, hdp⟩ := h.tree.dep y0 hy0
            rw [e0] at hdp
            have hb := aside hdp (fun hi => by rcases List.mem_cons.1 hi with e | e; exact hne e; exact hnb e)
            rw [dN_yes h hdp] at hg
            have h64 := goal_high (mu_fam (x := x) h) hp (by obtain ⟨y1, hy1, f1, _⟩ := mu_node (x := x) hy0; exact ⟨y1, hy1, by rw [f1, e0]⟩) hg
            exact ⟨dp + 1, by have g := Dep.kid (m := ⟨m.next, placeN (mu m x).nodes x.id p role q⟩) dp y' hy' (by rw [f4]; exact hp) (by rw [f4]; exact hb); rw [f3] at g; exact g, by omega⟩
        obtain ⟨dn, hdn, hdn6⟩ := hst
        obtain ⟨e, g1, g2⟩ := dep_moved h hx hdx hdn (fun w hw1 hwx => hlike w hw1 hwx) z.id hin
        refine ⟨dn + e, ?_, g2⟩
        have h3 : e + 1 ≤ heightN m x.id := by
          unfold heightN
          rw [dN_yes h hdx]
          rcases List.mem_cons.1 hin with e9 | e9
          · rw [e9] at g1
            have := g1.uniq h.1.2 hdx
            omega
          · have := most_ge (m := m) (d := dx) e9
            rw [dN_yes h g1] at this
            omega
        omega
      · exact ⟨d, hd6, aside hd hin⟩
    obtain ⟨d', hd'6, hd'⟩ := this
    refine up_of_dep hii 64 d' _ hy ?_ hd'6
    show Dep _ d' (g z1).id
    rw [hid, e1]; exact hd'
end Go.Proofs.Ytmafhaadcjgcbaa
end
section
/- a model stays right where a node is taken away with all below it, in plain Lean -/
namespace Go.Proofs.Ytmafhaadcjgcbaa
open Go Go.RowKit

theorem idAt_pair {nx : Int} {l : List ANode} (h1 : ∀ y ∈ l, 1 ≤ y.id ∧ y.id < nx) (h2 : l.Pairwise (fun a b => a.id < b.id)) : ∀ i, IdAt ⟨nx, l⟩ i := fun i hi =>
  ⟨(h1 _ (List.getElem_mem hi)).1, (h1 _ (List.getElem_mem hi)).2, fun h0 => List.pairwise_iff_getElem.1 h2 (i - 1) i (by show i - 1 < l.length; have : i < l.length := hi; omega) hi (by omega)⟩
theorem ids_pair {m : AModel} (h : ∀ i, IdAt m i) : m.nodes.Pairwise (fun a b => a.id < b.id) := List.pairwise_iff_getElem.2 fun i j hi hj hij => ids_lt h i j hi hj hij
theorem ids_in {m : AModel} (h : ∀ i, IdAt m i) : ∀ y ∈ m.nodes, 1 ≤ y.id ∧ y.id < m.next := fun y hy => by
  obtain ⟨i, hi, rfl⟩ := List.getElem_of_mem hy
  exact ⟨(h i hi).1, (h i hi).2.1⟩
theorem cnt_filter {l : List ANode} {P : ANode → Bool} {k : Int} (h : ∀ z ∈ l, P z = false → k ∉ z.kids) : cnt (l.filter P) k = cnt l k := by
  induction l with
  | nil => rfl
  | cons z r ih =>
    have ih2 := ih (fun y hy => h y (List.mem_cons_of_mem _ hy))
    cases hp : P z with
    | true => rw [List.filter_cons_of_pos hp, cnt_cons, cnt_cons, ih2]
    | false =>
      rw [List.filter_cons_of_neg (by rw [hp]; simp), cnt_cons, ih2, List.count_eq_zero.2 (h z (List.mem_cons_self ..) hp)]
      omega
open Classical in
theorem removeE_zero {m : AModel} {id : Int} (h : removeE m id = 0) : CheckM m ∧ ∃ x ∈ m.nodes, x.id = id ∧ nodeOf m id = x := by
  unfold removeE at h
  by_cases hc : CheckM m
  · rw [if_neg (fun e => e hc)] at h
    rcases atI_cases m.nodes id with ⟨j, hj, hj1, hj2⟩ | ⟨hj1, hj2⟩
    · exact ⟨hc, m.nodes[j], List.getElem_mem hj, hj1, by rw [← hj1]; exact hc.tree.nodeOf (List.getElem_mem hj)⟩
    · rw [if_pos (by rw [hj2]; omega)] at h; cases h
  · rw [if_pos hc] at h; cases h
theorem remove_check {m : AModel} {id : Int} (hE : removeE m id = 0) : CheckM ⟨m.next, removeL m id⟩ := by
  obtain ⟨h, x, hx, rfl, hxo⟩ := removeE_zero hE
  have hL : removeL m x.id = (mu m x).nodes.filter (fun y => !decide (y.id ∈ belowL m x.id ++ [x.id])) := by unfold removeL; rw [hxo]
  rw [hL]
  have hin : ∀ i, (i ∈ belowL m x.id ++ [x.id]) ↔ InT m x i := fun i => by
    unfold InT ksL
    rw [List.mem_append, List.mem_singleton, List.mem_cons]
    exact Or.comm
  let P : ANode → Bool := fun y => !decide (y.id ∈ belowL m x.id ++ [x.id])
  have hP : ∀ y, P y = true ↔ ¬ InT m x y.id := fun y => by
    show (!decide _) = true ↔ _
    rw [Bool.not_eq_true', decide_eq_false_iff_not, hin]
  have hnk := mu_nokid (x := x) h hx
  have hids := idAt_congr (m' := mu m x) h.1.2 rfl (mu_ids2 m x)
  have hlike : ∀ z ∈ m.nodes, ¬ InT m x z.id → ∃ y ∈ (mu m x).nodes.filter P, y.id = z.id ∧ y.parent = z.parent := fun z hz hn => by
    obtain ⟨y, hy, e1, e2⟩ := mu_node (x := x) hz
    exact ⟨y, List.mem_filter.2 ⟨hy, (hP y).2 (by rw [e1]; exact hn)⟩, e1, e2⟩
  have hii : ∀ i, IdAt ⟨m.next, (mu m x).nodes.filter P⟩ i := idAt_pair (fun y hy => ids_in hids y (List.mem_filter.1 hy).1) ((ids_pair hids).sublist List.filter_sublist)
  have hlen : ((mu m x).nodes.filter P).length ≤ m.nodes.length := by rw [← mu_len m x]; exact List.length_filter_le _ _
  have kept : ∀ y ∈ (mu m x).nodes.filter P, ∀ k ∈ y.kids, ∃ w ∈ m.nodes, w.id = k ∧ w.parent = y.id ∧ ¬ InT m x k := fun y hy k hk => by
    obtain ⟨hy1, hy2⟩ := List.mem_filter.1 hy
    have hny := (hP y).1 hy2
    obtain ⟨z, hz, e1, _, _, _, _, _, hks, _⟩ := mu_mem hy1
    obtain ⟨w, hw, f1, f2⟩ := h.2.2.1 z hz k (hks k hk)
    refine ⟨w, hw, f1, by rw [f2, e1], fun hi => ?_⟩
    rcases List.mem_cons.1 hi with e | e
    · exact hnk y hy1 (by rw [← e]; exact hk)
    · rw [← f1] at e
      refine hny ?_
      rw [e1, ← f2]
      rcases h.tree.below_parent x hx w hw e with e9 | e9
      · rw [e9]; exact List.mem_cons_self ..
      · exact List.mem_cons_of_mem _ e9
  refine ⟨⟨⟨h.1.1.1, h.1.1.2.1, Nat.le_trans hlen h.1.1.2.2⟩, hii⟩, fun y hy => ?_, fun y hy k hk => ?_, fun y hy => ?_, fun y hy => ?_⟩
  · obtain ⟨hy1, hy2⟩ := List.mem_filter.1 hy
    obtain ⟨z, hz, e1, e2, e3, e4, e5, e6, hks, _⟩ := mu_mem hy1
    obtain ⟨a1, a2, a3, a4, a5, a6⟩ := h.2.1 z hz
    refine ⟨by rw [e4]; exact a1, by rw [e2, e3]; exact a2, by rw [e3]; exact a3, ?_, by rw [e5]; exact a5, by show RefsOK m.next y.refs; rw [e6]; exact a6⟩
    have := len_le (L := ((mu m x).nodes.filter P).map (·.id)) (mu_nodup h y hy1) (fun k hk => by
      obtain ⟨w, hw, f1, _, hn⟩ := kept y hy k hk
      obtain ⟨y', hy', g1, _⟩ := hlike w hw (by rw [f1]; exact hn)
      rw [← f1, ← g1]; exact List.mem_map_of_mem hy')
    rw [List.length_map] at this
    exact this
  · obtain ⟨w, hw, f1, f2, hn⟩ := kept y hy k hk
    obtain ⟨y', hy', g1, g2⟩ := hlike w hw (by rw [f1]; exact hn)
    exact ⟨y', hy', g1.trans f1, g2.trans f2⟩
  · obtain ⟨hy1, hy2⟩ := List.mem_filter.1 hy
    have hny := (hP y).1 hy2
    obtain ⟨z, hz, e1, e2, _⟩ := mu_mem hy1
    have hyx : y.id ≠ x.id := fun e => hny (by rw [e]; exact List.mem_cons_self ..)
    have hc : cnt ((mu m x).nodes.filter P) y.id = cnt m.nodes z.id := by
      rw [cnt_filter (fun z1 hz1 hp hk => ?_), mu_cnt hyx, e1]
      have hi : InT m x z1.id := by
        cases Classical.em (InT m x z1.id) with
        | inl h => exact h
        | inr h => rw [(hP z1).2 h] at hp; cases hp
      obtain ⟨z2, hz2, f1, _, _, _, _, _, hks, _⟩ := mu_mem hz1
      exact hny (List.mem_cons_of_mem _ (ks_kids h.tree hx hz2 (by rw [← f1]; exact hi) (hks _ hk)))
    show (y.parent = 0 → cnt ((mu m x).nodes.filter P) y.id = 0) ∧ (y.parent ≠ 0 → cnt ((mu m x).nodes.filter P) y.id = 1)
    rw [hc, e2]
    exact h.2.2.2.1 z hz
  · obtain ⟨hy1, hy2⟩ := List.mem_filter.1 hy
    have hny := (hP y).1 hy2
    obtain ⟨z, hz, e1, _⟩ := mu_mem hy1
    obtain ⟨d, hd6, hd⟩ := h.tree.dep z hz
    refine up_of_dep hii 64 d y hy ?_ hd6
    rw [e1]
    exact dep_aside (S := InT m x) hlike (fun w hw1 => inT_kid h hx hw1) hd (by rw [← e1]; exact hny)
end Go.Proofs.Ytmafhaadcjgcbaa
end
section
/- a model stays right where a reference is aimed, in plain Lean -/
namespace Go.Proofs.Ytmafhaadcjgcbaa
open Go Go.RowKit

theorem refsOK_iff {n : Int} {l : List ARef} : RefsOK n l ↔ (∀ x ∈ l, wordA x.role = true ∧ 1 ≤ x.target ∧ x.target < n) ∧ SrtN ARef.role l := by
  refine ⟨fun h => ⟨fun x hx => ?_, refs_srt h⟩, fun h i hi => ⟨(h.1 _ (List.getElem_mem hi)).1, (h.1 _ (List.getElem_mem hi)).2.1, (h.1 _ (List.getElem_mem hi)).2.2, fun h0 => ?_⟩⟩
  · obtain ⟨i, hi, rfl⟩ := List.getElem_of_mem hx
    exact ⟨(h i hi).1, (h i hi).2.1, (h i hi).2.2.1⟩
  · rw [geS_less, h.2 (i - 1) i (by omega) hi (by omega)]; rfl
theorem refs_aim {n : Int} {l : List ARef} {nm : ByteArray} {tg : Int} (h : RefsOK n l) (hw : wordA nm = true) (ht : 1 ≤ tg ∧ tg < n) : RefsOK n (setK ARef.role l nm ⟨nm, tg⟩) := by
  rw [refsOK_iff] at h ⊢
  refine ⟨fun x hx => ?_, setK_srt h.2 rfl⟩
  rcases setK_mem hx with e | e
  · exact h.1 x e
  · subst e; exact ⟨hw, ht.1, ht.2⟩
theorem aim_check {m : AModel} (h : CheckM m) {j : Nat} (hj : j < m.nodes.length) {nm : ByteArray} {tg : Int} (hw : wordA nm = true) (ht : ∃ y ∈ m.nodes, y.id = tg) : CheckM ⟨m.next, m.nodes.set j (aimN nm tg m.nodes[j])⟩ := by
  obtain ⟨y, hy, e⟩ := ht
  obtain ⟨i, hi, rfl⟩ := List.getElem_of_mem hy
  have h1 := h.1.2 i hi
  exact set_check h hj rfl rfl rfl rfl rfl (h.2.1 _ (List.getElem_mem hj)).2.2.2.2.1 (refs_aim (h.2.1 _ (List.getElem_mem hj)).2.2.2.2.2 hw ⟨by rw [← e]; exact h1.1, by rw [← e]; exact h1.2.1⟩)
end Go.Proofs.Ytmafhaadcjgcbaa
end
section
/- a model stays right where a node is copied with all below it, in plain Lean -/
namespace Go.Proofs.Ytmafhaadcjgcbaa
open Go Go.RowKit

open Classical in
theorem copyE_zero {m : AModel} {id p a : Int} {role : ByteArray} (h : copyE m id p role a = 0) : CheckM m ∧ (p ≠ 0 → wordA role = true) ∧ (∃ x ∈ m.nodes, x.id = id ∧ nodeOf m id = x) ∧ (p ≠ 0 → ∃ y ∈ m.nodes, y.id = p) ∧ goalE m p role a (dN m p) (heightN m id : Nat) = 0 ∧ m.nodes.length + (ksL m id).length ≤ 4096 ∧ m.next + (ksL m id).length ≤ 1048577 := by
  by_cases hc : CheckM m
  · by_cases hw : p ≠ 0 → wordA role = true
    · by_cases hn : atI m.nodes id < 0 ∨ (p ≠ 0 ∧ atI m.nodes p < 0)
      · rw [copyE_node hc hw hn] at h; cases h
      · by_cases hg : goalE m p role a (dN m p) (heightN m id : Nat) = 0
        · by_cases hf : 4096 < m.nodes.length + (ksL m id).length ∨ 1048577 < m.next + (ksL m id).length
          · rw [copyE_full hc hw hn hg hf] at h; cases h
          · have find : ∀ k, ¬ atI m.nodes k < 0 → ∃ y ∈ m.nodes, y.id = k := fun k hk => by
              rcases atI_cases m.nodes k with ⟨j, hj, hj1, hj2⟩ | ⟨hj1, hj2⟩
              · exact ⟨m.nodes[j], List.getElem_mem hj, hj1⟩
              · exact absurd (by rw [hj2]; omega) hk
            obtain ⟨x, hx, e⟩ := find id (fun e => hn (.inl e))
            exact ⟨hc, hw, ⟨x, hx, e, by rw [← e]; exact hc.tree.nodeOf hx⟩, fun hp => find p (fun e => hn (.inr ⟨hp, e⟩)), hg, by omega, by omega⟩
        · rw [copyE_goal hc hw hn hg] at h; exact absurd h hg
    · have hp : p ≠ 0 := fun e => hw (fun h => absurd e h)
      have hw2 : wordA role = false := by
        cases e : wordA role with
        | false => rfl
        | true => exact absurd (fun _ => e) hw
      rw [copyE_word hc hp hw2] at h; cases h
  · rw [copyE_check hc] at h; cases h
section
variable {m : AModel} {x : ANode} (h : CheckM m) (hx : x ∈ m.nodes)
include h hx
/-- each copy stems from a node at or below the first one -/
theorem copy_from {z : ANode} (hz : z ∈ copiesTo m (ksL m x.id) (ksL m x.id).length) : ∃ (i : Nat) (hi : i < (ksL m x.id).length), ∃ y ∈ m.nodes, y.id = (ksL m x.id)[i] ∧ z = copyN m (ksL m x.id) i y := by
  obtain ⟨i, hi, e⟩ := copies_mem hz
  obtain ⟨y, hy, ey⟩ := ks_node h.tree hx (List.getElem_mem hi)
  refine ⟨i, hi, y, hy, ey, ?_⟩
  rw [e, List.getD_eq_getElem?_getD, List.getElem?_eq_getElem hi]
  show copyN m _ i (nodeOf m (ksL m x.id)[i]) = _
  rw [← ey, h.tree.nodeOf hy]
omit hx in
/-- and each such node has its copy -/
theorem copy_to {i : Nat} (hi : i < (ksL m x.id).length) {y : ANode} (hy : y ∈ m.nodes) (e : y.id = (ksL m x.id)[i]) : copyN m (ksL m x.id) i y ∈ copiesTo m (ksL m x.id) (ksL m x.id).length := by
  have h1 := copies_at m (ksL m x.id) (ksL m x.id).length i hi
  rw [List.getD_eq_getElem?_getD, List.getElem?_eq_getElem hi] at h1
  have h2 : nodeOf m (ksL m x.id)[i] = y := by rw [← e]; exact h.tree.nodeOf hy
  rw [show (some (ksL m x.id)[i]).getD 0 = (ksL m x.id)[i] from rfl, h2] at h1
  rw [← h1]; exact List.getElem_mem _
theorem idx_at {i : Nat} (hi : i < (ksL m x.id).length) : idxI (ksL m x.id) (ksL m x.id)[i] = i := by
  rcases idxI_cases (ksL m x.id) (ksL m x.id)[i] with ⟨q, hq, e0, e, _⟩ | ⟨h2, _⟩
  · rw [e]
    have hnd := ks_nodup h.tree hx
    rcases Nat.lt_trichotomy q i with h1 | h1 | h1
    · exact absurd e0 (List.pairwise_iff_getElem.1 hnd q i hq hi h1)
    · rw [h1]
    · exact absurd e0.symm (List.pairwise_iff_getElem.1 hnd i q hi hq h1)
  · exact absurd (List.getElem_mem hi) h2
end

theorem no_copy {m : AModel} (h : CheckM m) {x : ANode} (hx : x ∈ m.nodes) {z : ANode} (hz : z ∈ copiesTo m (ksL m x.id) (ksL m x.id).length) {k : Int} (hk : k ∈ z.kids) : m.next < k ∧ k < m.next + (ksL m x.id).length := by
  obtain ⟨c, _, rfl, h1, h2⟩ := copies_kid h hx (Nat.le_refl _) hz hk
  omega
theorem copies_flat {m : AModel} (h : CheckM m) {x : ANode} (hx : x ∈ m.nodes) : ((copiesTo m (ksL m x.id) (ksL m x.id).length).flatMap ANode.kids).Nodup := by
  have hnd : (copiesTo m (ksL m x.id) (ksL m x.id).length).Nodup := List.pairwise_iff_getElem.2 fun i j hi hj hij e => by
    rw [copies_len] at hi hj
    have h1 := congrArg ANode.id e
    rw [copies_at _ _ _ _ hi, copies_at _ _ _ _ hj] at h1
    have : m.next + (i : Int) = m.next + j := h1
    omega
  have hinj : ∀ c ∈ belowL m x.id, ∀ c2 ∈ belowL m x.id, m.next + idxI (ksL m x.id) c = m.next + idxI (ksL m x.id) c2 → c = c2 := fun c hc c2 hc2 e => by
    rcases idxI_cases (ksL m x.id) c with ⟨q, hq, e1, e2, _⟩ | ⟨h2, _⟩
    · rcases idxI_cases (ksL m x.id) c2 with ⟨q2, hq2, e3, e4, _⟩ | ⟨h2, _⟩
      · have : q = q2 := by omega
        subst this
        rw [← e1, e3]
      · exact absurd (List.mem_cons_of_mem _ hc2) h2
    · exact absurd (List.mem_cons_of_mem _ hc) h2
  refine flat_nodup hnd (fun z hz => ?_) (fun z hz z2 hz2 hne k hk hk2 => ?_)
  · obtain ⟨i, hi, y, hy, ey, rfl⟩ := copy_from h hx hz
    have hyk := h.tree.kids_nodup hy
    show (y.kids.map _).Nodup
    refine List.pairwise_map.2 (hyk.imp_of_mem fun {c c2} hc hc2 hne e => hne ?_)
    have hin : ∀ c ∈ y.kids, c ∈ belowL m x.id := fun c hc => ks_kids h.tree hx hy (by rw [ey]; exact List.getElem_mem hi) hc
    exact hinj c (hin c hc) c2 (hin c2 hc2) e
  · obtain ⟨i, hi, y, hy, ey, rfl⟩ := copy_from h hx hz
    obtain ⟨i2, hi2, y2, hy2, ey2, rfl⟩ := copy_from h hx hz2
    obtain ⟨c, hc, e1⟩ := List.mem_map.1 (show k ∈ y.kids.map _ from hk)
    obtain ⟨c2, hc2, e2⟩ := List.mem_map.1 (show k ∈ y2.kids.map _ from hk2)
    have b1 := ks_kids h.tree hx hy (by rw [ey]; exact List.getElem_mem hi) hc
    have b2 := ks_kids h.tree hx hy2 (by rw [ey2]; exact List.getElem_mem hi2) hc2
    have : c = c2 := hinj c b1 c2 b2 (e1.trans e2.symm)
    subst this
    obtain ⟨w, hw, f1, f2, _⟩ := h.tree.kid hy hc
    obtain ⟨w2, hw2, g1, g2, _⟩ := h.tree.kid hy2 hc2
    have : w = w2 := node_inj h.1.2 hw hw2 (f1.trans g1.symm)
    subst this
    have e9 : y.id = y2.id := f2.symm.trans g2
    have e10 : i = i2 := by
      have a := idx_at h hx hi
      have b := idx_at h hx hi2
      rw [← ey, e9, ey2] at a
      rw [a] at b
      omega
    subst e10
    exact hne (by rw [node_inj h.1.2 hy hy2 e9])

theorem refs_copy {nx : Int} {ks : List Int} {l : List ARef} (h : RefsOK nx l) (hn : 1 ≤ nx) : RefsOK (nx + ks.length) (l.map (refTo nx ks)) := by
  have hr : ∀ r, (refTo nx ks r).role = r.role := fun r => by unfold refTo; split <;> rfl
  rw [refsOK_iff] at h ⊢
  refine ⟨fun r hr2 => ?_, fun i j hi hj hij => ?_⟩
  · obtain ⟨r0, h0, rfl⟩ := List.mem_map.1 hr2
    obtain ⟨b1, b2, b3⟩ := h.1 r0 h0
    rw [hr]
    refine ⟨b1, ?_⟩
    unfold refTo
    by_cases hk : r0.target ∈ ks
    · rw [if_pos hk]
      have := idx_lt hk
      show 1 ≤ nx + idxI ks r0.target ∧ nx + idxI ks r0.target < nx + ks.length
      omega
    · rw [if_neg hk]; omega
  · have := h.2 i j (by simpa using hi) (by simpa using hj) hij
    rw [List.getElem_map, List.getElem_map, hr, hr]; exact this
theorem idx_first {m : AModel} {x : ANode} (h : CheckM m) (hx : x ∈ m.nodes) : idxI (ksL m x.id) x.id = 0 := idx_at h hx (i := 0) (Nat.succ_pos _)
/-- whoever stands below has a place behind the first one -/
theorem idx_below {m : AModel} {x : ANode} (h : CheckM m) (hx : x ∈ m.nodes) {k : Int} (hk : k ∈ belowL m x.id) : ∃ (j : Nat) (hj : j < (ksL m x.id).length), j ≠ 0 ∧ (ksL m x.id)[j] = k ∧ idxI (ksL m x.id) k = j := by
  obtain ⟨j, hj, ej⟩ := List.getElem_of_mem (show k ∈ ksL m x.id from List.mem_cons_of_mem x.id hk)
  refine ⟨j, hj, fun e => ?_, ej, by rw [← ej]; exact idx_at h hx hj⟩
  subst e
  have : x.id = k := ej
  rw [← this] at hk
  exact h.tree.not_below hx hk
theorem below_at {m : AModel} {x : ANode} {i : Nat} (hi : i < (ksL m x.id).length) (h0 : i ≠ 0) : (ksL m x.id)[i] ∈ belowL m x.id := by
  obtain ⟨j, rfl⟩ : ∃ j, i = j + 1 := ⟨i - 1, by omega⟩
  have hj : j < (belowL m x.id).length := by
    have h : j + 1 < (x.id :: belowL m x.id).length := hi
    simpa using h
  exact (List.getElem_mem hj : (belowL m x.id)[j] ∈ belowL m x.id)
/-- a subtree copied: its copies stand as deep below the new place as it stood below the old one -/
theorem dep_copied {m b : AModel} (h : CheckM m) {x : ANode} (hx : x ∈ m.nodes) {dx dn : Nat} (hdx : Dep m dx x.id) (hn : Dep b dn m.next) (hg : ∀ y ∈ m.nodes, y.id ∈ belowL m x.id → ∃ z ∈ b.nodes, z.id = m.next + idxI (ksL m x.id) y.id ∧ z.parent = m.next + idxI (ksL m x.id) y.parent) :
    ∀ k ∈ ksL m x.id, ∃ e, Dep m (dx + e) k ∧ Dep b (dn + e) (m.next + idxI (ksL m x.id) k) := by
  have hn1 := h.1.1.1
  have key : ∀ z ∈ m.nodes, z.id ∈ ksL m x.id → (∃ e, Dep m (dx + e) z.id ∧ Dep b (dn + e) (m.next + idxI (ksL m x.id) z.id)) → ∀ k ∈ belowL m z.id, ∃ e, Dep m (dx + e) k ∧ Dep b (dn + e) (m.next + idxI (ksL m x.id) k) := by
    refine h.tree.induct fun z hz ih hin ⟨e, h1, h2⟩ k hk => ?_
    rw [h.tree.below_eq hz] at hk
    obtain ⟨c, hc, hk⟩ := List.mem_flatMap.1 hk
    obtain ⟨y, hy, rfl, e2, e3⟩ := h.tree.kid hz hc
    have hyb : y.id ∈ belowL m x.id := ks_kids h.tree hx hz hin hc
    obtain ⟨y', hy', e5, e6⟩ := hg y hy hyb
    have hps := (idx_lt (ks := ksL m x.id) hin).1
    have g1 : Dep m (dx + (e + 1)) y.id := .kid (dx + e) y hy e3 (by rw [e2]; exact h1)
    have g2 : Dep b (dn + (e + 1)) (m.next + idxI (ksL m x.id) y.id) := by
      rw [← e5]
      exact .kid (dn + e) y' hy' (by rw [e6, e2]; omega) (by rw [e6, e2]; exact h2)
    rcases List.mem_cons.1 hk with e7 | e7
    · rw [e7]; exact ⟨e + 1, g1, g2⟩
    · exact ih y hy hc (List.mem_cons_of_mem _ hyb) ⟨e + 1, g1, g2⟩ k e7
  have h0 : ∃ e, Dep m (dx + e) x.id ∧ Dep b (dn + e) (m.next + idxI (ksL m x.id) x.id) := ⟨0, hdx, by rw [idx_first h hx, Int.add_zero]; exact hn⟩
  intro k hk
  rcases List.mem_cons.1 hk with e | e
  · rw [e]; exact h0
  · exact key x hx (List.mem_cons_self ..) h0 k e

theorem copy_check {m : AModel} {id p a : Int} {role : ByteArray} (hE : copyE m id p role a = 0) : CheckM ⟨m.next + (ksL m id).length, copyL m id p role a⟩ := by
  obtain ⟨h, hw, ⟨x, hx, rfl, _⟩, hpy, hg, hlen, hnx⟩ := copyE_zero hE
  obtain ⟨q, hq⟩ : ∃ q, (iOf m p role a).toNat = q := ⟨_, rfl⟩
  obtain ⟨C, hC⟩ : ∃ C, copiesTo m (ksL m x.id) (ksL m x.id).length = C := ⟨_, rfl⟩
  have hL : copyL m x.id p role a = placeN (m.nodes ++ C) m.next p role q := by unfold copyL; rw [hq, hC]
  rw [hL]
  have hsrt : SrtB (m.nodes ++ C) := by rw [← hC]; exact copies_srt (x := x) h hnx (Nat.le_refl _)
  have hfrom : ∀ z ∈ C, ∃ (i : Nat) (hi : i < (ksL m x.id).length), ∃ y ∈ m.nodes, y.id = (ksL m x.id)[i] ∧ z = copyN m (ksL m x.id) i y := fun z hz => copy_from h hx (by rw [hC]; exact hz)
  have hto : ∀ (i : Nat) (hi : i < (ksL m x.id).length), ∀ y ∈ m.nodes, y.id = (ksL m x.id)[i] → copyN m (ksL m x.id) i y ∈ C := fun i hi y hy e => by rw [← hC]; exact copy_to h hi hy e
  have hnk : ∀ z ∈ C, ∀ k ∈ z.kids, m.next < k ∧ k < m.next + (ksL m x.id).length := fun z hz k hk => no_copy h hx (by rw [hC]; exact hz) hk
  have hflat : (C.flatMap ANode.kids).Nodup := by rw [← hC]; exact copies_flat h hx
  have hCl : C.length = (ksL m x.id).length := by rw [← hC]; exact copies_len _ _ _
  clear hC hL
  have hn1 := h.1.1.1
  have hlt := ids_in h.1.2
  have hplt : p < m.next := by
    by_cases hp : p = 0
    · omega
    · obtain ⟨y, hy, e2⟩ := hpy hp
      have := hlt y hy
      omega
  have hpn : p ≠ m.next := by omega
  have hpos : 0 < (ksL m x.id).length := Nat.succ_pos _
  have hplen : (placeN (m.nodes ++ C) m.next p role q).length = m.nodes.length + (ksL m x.id).length := by rw [placeN_len, List.length_append, hCl]
  let g : ANode → ANode := fun z => if z.id = m.next then { z with parent := p, role := role } else if z.id = p then { z with kids := insAt z.kids q m.next } else z
  have hmemb : ∀ z ∈ m.nodes ++ C, g z ∈ placeN (m.nodes ++ C) m.next p role q := fun z hz => List.mem_map.2 ⟨z, hz, rfl⟩
  have hgid : ∀ z, (g z).id = z.id := fun z => by show (if _ then _ else _ : ANode).id = _; split; rfl; split <;> rfl
  have hgpar : ∀ z, z.id ≠ m.next → (g z).parent = z.parent := fun z hz => by show (if _ then _ else _ : ANode).parent = _; rw [if_neg hz]; split <;> rfl
  have hgp0 : ∀ z, z.id = m.next → (g z).parent = p := fun z hz => by show (if _ then _ else _ : ANode).parent = _; rw [if_pos hz]
  have hlike : ∀ z ∈ m.nodes, ∃ y ∈ placeN (m.nodes ++ C) m.next p role q, y.id = z.id ∧ y.parent = z.parent := fun z hz => ⟨g z, hmemb z (List.mem_append_left _ hz), hgid z, hgpar z (by have := hlt z hz; omega)⟩
  have hid0 : ∀ y, (copyN m (ksL m x.id) 0 y).id = m.next := fun y => by show m.next + ((0 : Nat) : Int) = m.next; omega
  have hidi : ∀ i y, i ≠ 0 → (copyN m (ksL m x.id) i y).id ≠ m.next := fun i y h0 => by show m.next + (i : Int) ≠ m.next; omega
  have hfirst : ∃ y ∈ placeN (m.nodes ++ C) m.next p role q, y.id = m.next ∧ y.parent = p :=
    ⟨g (copyN m (ksL m x.id) 0 x), hmemb _ (List.mem_append_right _ (hto 0 hpos x hx rfl)), by rw [hgid]; exact hid0 x, hgp0 _ (hid0 x)⟩
  have hcop : ∀ y ∈ m.nodes, y.id ∈ belowL m x.id → ∃ z ∈ placeN (m.nodes ++ C) m.next p role q, z.id = m.next + idxI (ksL m x.id) y.id ∧ z.parent = m.next + idxI (ksL m x.id) y.parent := fun y hy hb => by
    obtain ⟨j, hj, h0, ej, e5⟩ := idx_below h hx hb
    refine ⟨g (copyN m (ksL m x.id) j y), hmemb _ (List.mem_append_right _ (hto j hj y hy ej.symm)), ?_, ?_⟩
    · rw [hgid, e5]; rfl
    · rw [hgpar _ (hidi j y h0)]
      show (if j = 0 then (0 : Int) else _) = _
      rw [if_neg h0]
  have hii : ∀ i, IdAt ⟨m.next + (ksL m x.id).length, placeN (m.nodes ++ C) m.next p role q⟩ i := by
    refine idAt_congr (m := ⟨m.next + (ksL m x.id).length, m.nodes ++ C⟩) (idAt_pair (fun y hy => ?_) (List.pairwise_iff_getElem.2 fun i j hi hj hij => hsrt.1 i j hi hj hij)) rfl (placeN_ids _ _ _ _ _)
    rcases List.mem_append.1 hy with hy | hy
    · have := hlt y hy; omega
    · obtain ⟨i, hi, y0, _, _, rfl⟩ := hfrom y hy
      show 1 ≤ m.next + (i : Int) ∧ m.next + (i : Int) < _
      omega
  refine ⟨⟨⟨by show (1 : Int) ≤ m.next + _; omega, by show m.next + _ ≤ (1048577 : Int); omega, by show (placeN _ _ _ _ _).length ≤ _; rw [hplen]; exact hlen⟩, hii⟩, fun y hy => ?_, fun y hy k hk => ?_, fun y hy => ?_, fun y hy => ?_⟩
  · obtain ⟨z, hz, rfl⟩ := List.mem_map.1 (show y ∈ placeN (m.nodes ++ C) m.next p role q from hy)
    rcases List.mem_append.1 hz with hz | hz
    · obtain ⟨a1, a2, a3, a4, a5, a6⟩ := h.2.1 z hz
      have c1 : z.id ≠ m.next := by have := hlt z hz; omega
      have a6' : RefsOK (m.next + (ksL m x.id).length) z.refs := refsOK_mono a6 (by omega)
      rw [if_neg c1]
      by_cases c2 : z.id = p
      · rw [if_pos c2]
        refine ⟨a1, a2, a3, ?_, a5, a6'⟩
        show (insAt z.kids q m.next).length ≤ (placeN _ _ _ _ _).length
        rw [hplen, insAt_length]
        omega
      · rw [if_neg c2]
        refine ⟨a1, a2, a3, ?_, a5, a6'⟩
        show z.kids.length ≤ (placeN _ _ _ _ _).length
        rw [hplen]; omega
    · obtain ⟨i, hi, y, hyn, ey, rfl⟩ := hfrom z hz
      obtain ⟨a1, a2, a3, a4, a5, a6⟩ := h.2.1 y hyn
      have hkl : (copyN m (ksL m x.id) i y).kids.length ≤ (placeN (m.nodes ++ C) m.next p role q).length := by
        show (y.kids.map _).length ≤ _
        rw [hplen, List.length_map]; omega
      have hrf : RefsOK (m.next + (ksL m x.id).length) (copyN m (ksL m x.id) i y).refs := refs_copy a6 hn1
      by_cases h0 : i = 0
      · subst h0
        rw [if_pos (hid0 y)]
        have hr0 : p = 0 → role.size = 0 := fun hp => by subst hp; rw [goalE_root] at hg; exact rootE_none hg
        refine ⟨a1, ⟨hr0, fun hs => ?_⟩, fun hs => hw (fun e => hs (hr0 e)), hkl, a5, hrf⟩
        by_cases hp : p = 0
        · exact hp
        · exact absurd hs (word_some (hw hp))
      · rw [if_neg (hidi i y h0), if_neg (by show m.next + (i : Int) ≠ p; omega)]
        have hpk := ks_parent h.tree hx hyn (by rw [ey]; exact below_at hi h0)
        have hp0 : y.parent ≠ 0 := fun e => by
          obtain ⟨y1, hy1, e1⟩ := ks_node h.tree hx hpk
          have := hlt y1 hy1
          omega
        have hps := (idx_lt hpk).1
        refine ⟨a1, ⟨fun e => ?_, fun e => absurd (a2.2 e) hp0⟩, a3, hkl, a5, hrf⟩
        have e : (if i = 0 then (0 : Int) else m.next + idxI (ksL m x.id) y.parent) = 0 := e
        rw [if_neg h0] at e
        omega
  · obtain ⟨z, hz, rfl⟩ := List.mem_map.1 (show y ∈ placeN (m.nodes ++ C) m.next p role q from hy)
    rcases List.mem_append.1 hz with hz | hz
    · have c1 : z.id ≠ m.next := by have := hlt z hz; omega
      have old : ∀ k ∈ z.kids, KidAt ⟨m.next + (ksL m x.id).length, placeN (m.nodes ++ C) m.next p role q⟩ z.id k := fun k hk => by
        obtain ⟨w, hw1, f1, f2⟩ := h.2.2.1 z hz k hk
        obtain ⟨y', hy', f3, f4⟩ := hlike w hw1
        exact ⟨y', hy', f3.trans f1, f4.trans f2⟩
      rw [if_neg c1] at hk ⊢
      by_cases c2 : z.id = p
      · rw [if_pos c2] at hk ⊢
        rcases insAt_mem hk with e | e
        · obtain ⟨y', hy', f3, f4⟩ := hfirst
          exact ⟨y', hy', by rw [e]; exact f3, by rw [f4]; exact c2.symm⟩
        · exact old k e
      · rw [if_neg c2] at hk ⊢; exact old k hk
    · obtain ⟨i, hi, y, hyn, ey, rfl⟩ := hfrom z hz
      have key : ∀ k ∈ y.kids.map (fun k => m.next + idxI (ksL m x.id) k), KidAt ⟨m.next + (ksL m x.id).length, placeN (m.nodes ++ C) m.next p role q⟩ (m.next + (i : Int)) k := fun k hk => by
        obtain ⟨c, hc, rfl⟩ := List.mem_map.1 hk
        obtain ⟨w, hw1, rfl, f2, _⟩ := h.tree.kid hyn hc
        obtain ⟨z', hz', g1, g2⟩ := hcop w hw1 (ks_kids h.tree hx hyn (by rw [ey]; exact List.getElem_mem hi) hc)
        exact ⟨z', hz', g1, by rw [g2, f2, ey, idx_at h hx hi]⟩
      by_cases h0 : i = 0
      · subst h0
        rw [if_pos (hid0 y)] at hk ⊢
        exact key k hk
      · rw [if_neg (hidi i y h0), if_neg (by show m.next + (i : Int) ≠ p; omega)] at hk ⊢
        exact key k hk
  · obtain ⟨z, hz, rfl⟩ := List.mem_map.1 (show y ∈ placeN (m.nodes ++ C) m.next p role q from hy)
    have hold : ∀ k, k ≤ m.next → cnt C k = 0 := fun k hk => cnt_zero fun y hy hky => by have := hnk y hy k hky; omega
    have hnew : ∀ k, m.next ≤ k → cnt m.nodes k = 0 := fun k hk => cnt_zero fun y hy hky => by
      obtain ⟨w, hw1, e, _⟩ := h.2.2.1 y hy k hky
      have := hlt w hw1
      omega
    show ((g z).parent = 0 → cnt (placeN (m.nodes ++ C) m.next p role q) (g z).id = 0) ∧ ((g z).parent ≠ 0 → cnt (placeN (m.nodes ++ C) m.next p role q) (g z).id = 1)
    rw [hgid z, cnt_place (m.nodes ++ C) role q hpn z.id, cnt_append]
    rcases List.mem_append.1 hz with hz | hz
    · have h1 := hlt z hz
      rw [hold z.id (by omega), if_neg (by omega), hgpar z (by omega)]
      exact h.2.2.2.1 z hz
    · obtain ⟨i, hi, y, hyn, ey, rfl⟩ := hfrom z hz
      by_cases h0 : i = 0
      · subst h0
        rw [hgp0 _ (hid0 y), hid0 y, hold _ (Int.le_refl _), hnew _ (Int.le_refl _), if_pos rfl]
        refine ⟨fun hp => ?_, fun hp => ?_⟩
        · rw [no_id (fun y2 hy2 e => by
            obtain ⟨j, hj, rfl⟩ := List.getElem_of_mem hy2
            have := (hsrt.2 j hj).1
            omega)]
        · obtain ⟨y0, hy0, e0⟩ := hpy hp
          rw [← e0, one_id hsrt (List.mem_append_left _ hy0)]
      · have hne1 := hidi i y h0
        have hpk := ks_parent h.tree hx hyn (by rw [ey]; exact below_at hi h0)
        have hp0 : y.parent ≠ 0 := fun e => by
          obtain ⟨y1, hy1, e1⟩ := ks_node h.tree hx hpk
          have := hlt y1 hy1
          omega
        have hps := (idx_lt hpk).1
        rw [hgpar _ hne1, if_neg (fun e => hne1 e.symm), hnew _ (by show m.next ≤ m.next + (i : Int); omega)]
        have hc1 : cnt C (copyN m (ksL m x.id) i y).id = 1 := by
          have a := List.nodup_iff_count.1 hflat (copyN m (ksL m x.id) i y).id
          obtain ⟨j, hj, ej⟩ := List.getElem_of_mem hpk
          obtain ⟨w, hw1, f1, f2⟩ := hung h hyn hp0
          have b0 : (copyN m (ksL m x.id) i y).id ∈ (copyN m (ksL m x.id) j w).kids := (List.mem_map.2 ⟨y.id, f2, by rw [ey, idx_at h hx hi]; rfl⟩ : (copyN m (ksL m x.id) i y).id ∈ w.kids.map (fun k => m.next + idxI (ksL m x.id) k))
          have b : 0 < (C.flatMap ANode.kids).count (copyN m (ksL m x.id) i y).id := List.count_pos_iff.2 (List.mem_flatMap.2 ⟨_, hto j hj w hw1 (f1.trans ej.symm), b0⟩)
          unfold cnt
          omega
        rw [hc1]
        refine ⟨fun e => ?_, fun _ => rfl⟩
        have e : (if i = 0 then (0 : Int) else m.next + idxI (ksL m x.id) y.parent) = 0 := e
        rw [if_neg h0] at e
        omega
  · obtain ⟨z, hz, rfl⟩ := List.mem_map.1 (show y ∈ placeN (m.nodes ++ C) m.next p role q from hy)
    have old : ∀ {d : Nat} {i : Int}, Dep m d i → Dep ⟨m.next + (ksL m x.id).length, placeN (m.nodes ++ C) m.next p role q⟩ d i := fun hd =>
      dep_aside (S := fun _ => False) (fun w hw1 _ => hlike w hw1) (fun _ _ e => e) hd (fun e => e)
    have : ∃ d', d' ≤ 64 ∧ Dep ⟨m.next + (ksL m x.id).length, placeN (m.nodes ++ C) m.next p role q⟩ d' z.id := by
      rcases List.mem_append.1 hz with hz | hz
      · obtain ⟨d, hd6, hd⟩ := h.tree.dep z hz
        exact ⟨d, hd6, old hd⟩
      · obtain ⟨i, hi, y, hyn, ey, rfl⟩ := hfrom z hz
        obtain ⟨dx, hdx6, hdx⟩ := h.tree.dep x hx
        have hh := height_le h hx
        have hst : ∃ dn, Dep ⟨m.next + (ksL m x.id).length, placeN (m.nodes ++ C) m.next p role q⟩ dn m.next ∧ dn + heightN m x.id ≤ 65 := by
          obtain ⟨y', hy', f3, f4⟩ := hfirst
          by_cases hp : p = 0
          · exact ⟨1, by have g := Dep.root (m := ⟨m.next + (ksL m x.id).length, placeN (m.nodes ++ C) m.next p role q⟩) y' hy' (by rw [f4]; exact hp); rw [f3] at g; exact g, by omega⟩
          · obtain ⟨y0, hy0, e0⟩ := hpy hp
            obtain ⟨dp, _, hdp⟩ := h.tree.dep y0 hy0
            rw [e0] at hdp
            have hb := old hdp
            rw [dN_yes h hdp] at hg
            have h64 := goal_high h.tree.fam hp ⟨y0, hy0, e0⟩ hg
            exact ⟨dp + 1, by have g := Dep.kid (m := ⟨m.next + (ksL m x.id).length, placeN (m.nodes ++ C) m.next p role q⟩) dp y' hy' (by rw [f4]; exact hp) (by rw [f4]; exact hb); rw [f3] at g; exact g, by omega⟩
        obtain ⟨dn, hdn, hdn6⟩ := hst
        have hin : y.id ∈ ksL m x.id := by rw [ey]; exact List.getElem_mem hi
        obtain ⟨e, g1, g2⟩ := dep_copied h hx hdx hdn hcop y.id hin
        have e8 : (copyN m (ksL m x.id) i y).id = m.next + idxI (ksL m x.id) y.id := by rw [ey, idx_at h hx hi]; rfl
        refine ⟨dn + e, ?_, by rw [e8]; exact g2⟩
        have h3 : e + 1 ≤ heightN m x.id := by
          unfold heightN
          rw [dN_yes h hdx]
          rcases List.mem_cons.1 hin with e9 | e9
          · rw [e9] at g1
            have := g1.uniq h.1.2 hdx
            omega
          · have := most_ge (m := m) (d := dx) e9
            rw [dN_yes h g1] at this
            omega
        omega
    obtain ⟨d', hd'6, hd'⟩ := this
    refine up_of_dep hii 64 d' _ hy ?_ hd'6
    show Dep _ d' (g z).id
    rw [hgid]; exact hd'
end Go.Proofs.Ytmafhaadcjgcbaa
end
section
/- what an edit answers, in plain Lean: the model is right, its texts are bounded, and what is touched is told -/
namespace Go.Proofs.Ytmafhaadcjgcbaa
open Go Go.RowKit

section
variable {m : AModel} {nm val role concept : ByteArray} {id parent a : Int} {j : Nat}
open Classical in
theorem setE_zero {lg no : Prop} (h : setE m nm lg no = 0) : CheckM m ∧ wordA nm = true ∧ ¬ lg := by
  unfold setE at h
  by_cases hc : CheckM m
  · rw [if_neg (fun e => e hc)] at h
    by_cases hw : wordA nm = false
    · rw [if_pos hw] at h; cases h
    · rw [if_neg hw] at h
      by_cases hl : lg
      · rw [if_pos hl] at h; cases h
      · exact ⟨hc, by simpa using hw, hl⟩
  · rw [if_pos hc] at h; cases h
open Classical in
theorem addE_zero (h : addE m parent role a concept = 0) : CheckM m ∧ wordA concept = true ∧ (parent ≠ 0 → wordA role = true) := by
  unfold addE at h
  by_cases hc : CheckM m
  · rw [if_neg (fun e => e hc)] at h
    by_cases hw : wordA concept = false ∨ (parent ≠ 0 ∧ wordA role = false)
    · rw [if_pos hw] at h; cases h
    · refine ⟨hc, ?_, fun hp => ?_⟩
      · cases e : wordA concept
        · exact absurd (.inl e) hw
        · rfl
      · cases e : wordA role
        · exact absurd (.inr ⟨hp, e⟩) hw
        · rfl
  · rw [if_pos hc] at h; cases h
end
end Go.Proofs.Ytmafhaadcjgcbaa
end
section
/- a number's rest -/
namespace Go.Proofs.Ytmafhaadcjgcbaa
open Go Go.RowKit

/-- a number's rest -/
def restN (x : Int) (n : Nat) : Nat := (x % 18446744073709551616).toNat % n
theorem restN_lt (x : Int) {n : Nat} (h : 1 ≤ n) : restN x n < n := Nat.mod_lt _ (by omega)
set_option maxRecDepth 100000 in
set_option maxHeartbeats 2000000 in
theorem rest_any (x : Int) (n : Nat) (hx : InR x) (hn : 1 ≤ n) (hn2 : n ≤ 9223372036854775807) (w : World) :
    Calls Try.prog 58 #[.int .i64 x, .int .i64 n] w fun e w' => e = .returned (.int .i64 (restN x n)) ∧ Below w.heap.size w w' := by
  have h0 : (n : Int) ≠ 0 := by omega
  go_enter Try.func58, Try.ntmps58
  go_wp2
  go_ret
  have h1 : wrap64 ((IntKind.u64.wrap x).tmod (n : Int)) = ((restN x n : Nat) : Int) := by
    have e1 : IntKind.u64.wrap x = x % 18446744073709551616 := rfl
    have e2 : ((x % 18446744073709551616).toNat : Int) = x % 18446744073709551616 := Int.toNat_of_nonneg (Int.emod_nonneg _ (by decide))
    have h3 := restN_lt x hn
    rw [e1, ← e2, ← Int.ofNat_tmod]
    show wrap64 ((restN x n : Nat) : Int) = _
    exact IntWalk.wrap64_in _ ⟨by omega, by omega⟩
  exact ⟨by simp [h1], Below.refl _ _⟩
end Go.Proofs.Ytmafhaadcjgcbaa
end
section
/- what an act makes of a model, in plain Lean: it stays right, and no list in it grows by more than one -/
namespace Go.Proofs.Ytmafhaadcjgcbaa
open Go Go.RowKit

/-! ### A right model's nodes are bounded -/
theorem wordA_size {s : ByteArray} (h : wordA s = true) : s.size ≤ 33 := by
  have e : s.size = s.data.toList.length := rfl
  unfold wordA strip at h
  rw [e]
  generalize s.data.toList = l at h
  have key : ∀ r : List UInt8, rightB r = true → r.length ≤ 32 := fun r hr => by
    cases r with
    | nil => simp
    | cons c r =>
      simp only [rightB, Bool.and_eq_true, decide_eq_true_eq] at hr
      simp only [List.length_cons]; omega
  split at h
  · have := key _ h
    rw [List.length_tail] at this
    omega
  · have := key _ h
    omega
theorem node_ok {m : AModel} (h : CheckM m) : ∀ x ∈ m.nodes, NodeOK x := fun x hx => by
  obtain ⟨a1, a2, a3, a4, a5, a6⟩ := h.2.1 x hx
  have hlt : ∀ y ∈ m.nodes, 1 ≤ y.id ∧ y.id < m.next := fun y hy => by
    obtain ⟨i, hi, rfl⟩ := List.getElem_of_mem hy
    exact ⟨(h.1.2 i hi).1, (h.1.2 i hi).2.1⟩
  have hn := h.1.1.2.1
  refine ⟨⟨by have := wordA_size a1; omega, ?_, fun p hp => ?_, fun r hr => ?_⟩, ?_, fun k hk => ?_⟩
  · by_cases hr : x.role.size = 0
    · omega
    · have := wordA_size (a3 hr); omega
  · have := (propsOK_iff.1 a5).1 p hp
    have h2 := wordA_size this.1
    exact ⟨by omega, by omega⟩
  · have := (refsOK_iff.1 a6).1 r hr
    have h2 := wordA_size this.1
    omega
  · rcases check_parent h hx with e | ⟨y, hy, e⟩
    · rw [e]; unfold InR; omega
    · have := hlt y hy
      rw [e]; unfold InR; omega
  · obtain ⟨w, hw, e, _⟩ := h.2.2.1 x hx k hk
    have := hlt w hw
    rw [← e]; unfold InR; omega
/-- no node has more than k properties, or references -/
def Few (k : Nat) (m : AModel) : Prop := ∀ x ∈ m.nodes, x.props.length ≤ k ∧ x.refs.length ≤ k
theorem Few.mono {k j : Nat} {m : AModel} (h : Few k m) (hk : k ≤ j) : Few j m := fun x hx => ⟨Nat.le_trans (h x hx).1 hk, Nat.le_trans (h x hx).2 hk⟩
theorem lens_few {k : Nat} {m : AModel} (h : CheckM m) (hf : Few k m) (hk : k ≤ 100000) : ∀ x ∈ m.nodes, LensOK x := fun x hx => by
  have h1 := hf x hx
  have h2 := check_kids4 h x hx
  unfold LensOK
  omega
theorem setK_len {α : Type} {f : α → ByteArray} {l : List α} {t : ByteArray} {y : α} : (setK f l t y).length ≤ l.length + 1 := by
  unfold setK keepN
  rw [List.length_append, List.length_cons]
  have h1 := List.length_filter_le (fun x => !eqT (f x) t) (l.drop (cutK f l t))
  have h2 := congrArg List.length (List.take_append_drop (cutK f l t) l)
  rw [List.length_append] at h2
  omega

/-! ### Acts -/
structure QAct where
  kind : Int
  a : Int
  b : Int
  at' : Int
  word : ByteArray
  text : ByteArray
noncomputable def pickI (m : AModel) (x : Int) : Int := (orderL m).getD (restN x ((orderL m).length + 1)) 0
noncomputable def addM (m : AModel) (p : Int) (role : ByteArray) (a : Int) (concept : ByteArray) : AModel :=
  if p = 0 then addRoot m concept else addKid m (atI m.nodes p).toNat (nodeOf m p) ((spotI (nodeOf m p).kids (inL m (nodeOf m p) role) a).getD 0).toNat concept role
def sN : ByteArray := ⟨#[78, 111, 100, 101]⟩
noncomputable def actE (m : AModel) (k : Nat) (x y : Int) (role : ByteArray) (at' : Int) (word text : ByteArray) : Int :=
  if k < 2 then addE m y role at' sN else if k = 2 then moveE m x y role at' else if k = 3 then copyE m x y role at' else if k = 4 then removeE m x
  else if k = 5 then setE m word (4096 < text.size) (atI m.nodes x < 0) else setE m word False (atI m.nodes x < 0 ∨ atI m.nodes y < 0)
noncomputable def actM (m : AModel) (k : Nat) (x y : Int) (role : ByteArray) (at' : Int) (word text : ByteArray) : AModel :=
  if k < 2 then addM m y role at' sN else if k = 2 then ⟨m.next, moveL m x y role at'⟩ else if k = 3 then ⟨m.next + (ksL m x).length, copyL m x y role at'⟩ else if k = 4 then ⟨m.next, removeL m x⟩
  else if k = 5 then ⟨m.next, m.nodes.set (atI m.nodes x).toNat (putN word text (nodeOf m x))⟩ else ⟨m.next, m.nodes.set (atI m.nodes x).toNat (aimN word y (nodeOf m x))⟩
noncomputable def roleOf (m : AModel) (a : QAct) : ByteArray := if pickI m a.b = 0 then ⟨#[]⟩ else a.word
noncomputable def placeOf (m : AModel) (a : QAct) : Int := if pickI m a.b = 0 then 0 else (restN a.at' ((kidR m a.word (pickI m a.b)).length + 1) : Nat)
noncomputable def doneE (m : AModel) (a : QAct) : Int := actE m (restN a.kind 7) (pickI m a.a) (pickI m a.b) (roleOf m a) (placeOf m a) a.word a.text
noncomputable def doneM (m : AModel) (a : QAct) : AModel := if doneE m a = 0 then actM m (restN a.kind 7) (pickI m a.a) (pickI m a.b) (roleOf m a) (placeOf m a) a.word a.text else m

section
variable {m : AModel} {k : Nat} {x y at' : Int} {role word text concept : ByteArray}
open Classical in
theorem setE_node0 {lg no : Prop} (h : setE m word lg no = 0) : ¬ no := by
  unfold setE at h
  by_cases hc : CheckM m
  · rw [if_neg (fun e => e hc)] at h
    by_cases hw : wordA word = false
    · rw [if_pos hw] at h; cases h
    · rw [if_neg hw] at h
      by_cases hl : lg
      · rw [if_pos hl] at h; cases h
      · rw [if_neg hl] at h
        by_cases hn : no
        · rw [if_pos hn] at h; cases h
        · exact hn
  · rw [if_pos hc] at h; cases h
/-- a number that a node has: its place -/
theorem at_there (h : CheckM m) (hn : ¬ atI m.nodes x < 0) : ∃ j, ∃ hj : j < m.nodes.length, m.nodes[j].id = x ∧ (atI m.nodes x).toNat = j ∧ nodeOf m x = m.nodes[j] := by
  rcases atI_cases m.nodes x with ⟨j, hj, e1, e2⟩ | ⟨_, e⟩
  · exact ⟨j, hj, e1, by rw [e2]; rfl, by rw [← e1]; exact h.tree.nodeOf (List.getElem_mem hj)⟩
  · exact absurd (by rw [e]; omega) hn
open Classical in
/-- what a sum that is answered 0 tells -/
theorem add_ok0 (h : addE m y role at' concept = 0) : CheckM m ∧ wordA concept = true ∧ m.nodes.length ≤ 4095 ∧ m.next ≤ 1048576 ∧
    ((y = 0 ∧ addM m y role at' concept = addRoot m concept) ∨ (y ≠ 0 ∧ wordA role = true ∧ ∃ j, ∃ hj : j < m.nodes.length, m.nodes[j].id = y ∧ (∃ d, Dep m d y ∧ d ≤ 63) ∧ ∃ i : Nat, spotI m.nodes[j].kids (inL m m.nodes[j] role) at' = some (i : Int) ∧ addM m y role at' concept = addKid m j m.nodes[j] i concept role)) := by
  obtain ⟨h1, h2, h3⟩ := addE_zero h
  have hle := h1.1.1.2.2
  by_cases hp : y = 0
  · subst hp
    have h0 := h
    rw [addE_root h1 h2] at h
    have hr : rootE role at' = 0 := by
      by_cases e : rootE role at' = 0
      · exact e
      · rw [if_pos e] at h; exact h
    rw [if_neg (fun e => e hr)] at h
    have hn : ¬ (m.nodes.length = 4096 ∨ 1048576 < m.next) := fun e => by rw [if_pos e] at h; cases h
    exact ⟨h1, h2, by omega, by omega, .inl ⟨rfl, if_pos rfl⟩⟩
  · have hw := h3 hp
    have hat : ¬ (y ≠ 0 ∧ atI m.nodes y < 0) := fun e => by
      unfold addE at h
      rw [if_neg (fun e => e h1), if_neg (fun e9 => by rcases e9 with e9 | e9; rw [h2] at e9; cases e9; rw [hw] at e9; cases e9.2), if_pos e] at h
      cases h
    obtain ⟨j, hj, hid, hat2, hno⟩ := at_there (x := y) h1 (fun e => hat ⟨hp, e⟩)
    obtain ⟨d, hd64, hd⟩ := Dep.of_up 64 _ (List.getElem_mem hj) (h1.2.2.2.2 _ (List.getElem_mem hj))
    subst hid
    rw [addE_kid h1 h2 (List.getElem_mem hj) hw hd] at h
    obtain ⟨sp, hsp⟩ : ∃ s, spotI m.nodes[j].kids (inL m m.nodes[j] role) at' = s := ⟨_, rfl⟩
    rw [hsp] at h
    have hr : kidE sp d 1 = 0 := by
      by_cases e : kidE sp d 1 = 0
      · exact e
      · rw [if_pos e] at h; exact h
    rw [if_neg (fun e => e hr)] at h
    have hn : ¬ (m.nodes.length = 4096 ∨ 1048576 < m.next) := fun e => by rw [if_pos e] at h; cases h
    have hd2 : sp.isSome = true ∧ d ≤ 63 := by
      unfold kidE at hr
      split at hr
      · split at hr
        · cases hr
        · exact ⟨‹_›, by omega⟩
      · cases hr
    obtain ⟨s, rfl⟩ := Option.isSome_iff_exists.1 hd2.1
    have hs0 : 0 ≤ s := (spotI_le (fun k hk => (List.mem_filter.1 hk).1) hsp).1
    refine ⟨h1, h2, by omega, by omega, .inr ⟨hp, hw, j, hj, rfl, ⟨d, hd, hd2.2⟩, s.toNat, by rw [hsp]; congr 1; omega, ?_⟩⟩
    unfold addM
    rw [if_neg hp, hat2, hno, hsp]
    rfl
theorem add_step (h : addE m y role at' concept = 0) (hf : Few k m) : CheckM (addM m y role at' concept) ∧ Few (k + 1) (addM m y role at' concept) ∧ m.next ≤ (addM m y role at' concept).next := by
  obtain ⟨h1, h2, h3, h4, h5⟩ := add_ok0 h
  have new : ∀ p r, (newN m concept p r).props.length ≤ k + 1 ∧ (newN m concept p r).refs.length ≤ k + 1 := fun p r => ⟨Nat.zero_le _, Nat.zero_le _⟩
  rcases h5 with ⟨_, e⟩ | ⟨hp, hw, j, hj, rfl, ⟨d, hd, hd6⟩, i, _, e⟩
  · rw [e]
    refine ⟨addRoot_check h1 h2 h3 h4, fun z hz => ?_, by show m.next ≤ m.next + 1; omega⟩
    rcases List.mem_append.1 (show z ∈ m.nodes ++ [newN m concept 0 ⟨#[]⟩] from hz) with hz | hz
    · exact hf.mono (Nat.le_succ k) z hz
    · rw [List.mem_singleton.1 hz]; exact new _ _
  · rw [e]
    refine ⟨addKid_check h1 hj h2 hw h3 h4 hd hd6 i, fun z hz => ?_, by show m.next ≤ m.next + 1; omega⟩
    rcases List.mem_append.1 (show z ∈ m.nodes.set j { m.nodes[j] with kids := insAt m.nodes[j].kids i m.next } ++ [newN m concept m.nodes[j].id role] from hz) with hz | hz
    · rcases List.mem_or_eq_of_mem_set hz with e | e
      · exact hf.mono (Nat.le_succ k) z e
      · subst e; exact ⟨(hf.mono (Nat.le_succ k) _ (List.getElem_mem hj)).1, (hf.mono (Nat.le_succ k) _ (List.getElem_mem hj)).2⟩
    · rw [List.mem_singleton.1 hz]; exact new _ _
theorem mu_few {z : ANode} (hf : Few k m) : Few k (mu m z) := fun y hy => by
  obtain ⟨w, hw, _, _, _, _, e5, e6, _⟩ := mu_mem hy
  rw [e5, e6]; exact hf w hw
theorem place_few {ns : List ANode} {nx id p : Int} {q : Nat} (hf : ∀ z ∈ ns, z.props.length ≤ k ∧ z.refs.length ≤ k) : Few k ⟨nx, placeN ns id p role q⟩ := fun y hy => by
  obtain ⟨z, hz, rfl⟩ := List.mem_map.1 (show y ∈ placeN ns id p role q from hy)
  split
  · exact hf z hz
  · split <;> exact hf z hz
theorem move_step (h : moveE m x y role at' = 0) (hf : Few k m) : CheckM ⟨m.next, moveL m x y role at'⟩ ∧ Few (k + 1) ⟨m.next, moveL m x y role at'⟩ :=
  ⟨move_check h, Few.mono (place_few (mu_few hf)) (Nat.le_succ k)⟩
theorem remove_step (h : removeE m x = 0) (hf : Few k m) : CheckM ⟨m.next, removeL m x⟩ ∧ Few (k + 1) ⟨m.next, removeL m x⟩ := by
  refine ⟨remove_check h, fun z hz => ?_⟩
  have hz : z ∈ removeL m x := hz
  unfold removeL at hz
  exact (mu_few hf).mono (Nat.le_succ k) z (List.mem_filter.1 hz).1
theorem copy_step (h : copyE m x y role at' = 0) (hf : Few k m) : CheckM ⟨m.next + (ksL m x).length, copyL m x y role at'⟩ ∧ Few (k + 1) ⟨m.next + (ksL m x).length, copyL m x y role at'⟩ := by
  refine ⟨copy_check h, Few.mono (place_few fun z hz => ?_) (Nat.le_succ k)⟩
  obtain ⟨hc, _, ⟨u, hu, rfl, _⟩, _⟩ := copyE_zero h
  rcases List.mem_append.1 hz with hz | hz
  · exact hf z hz
  · obtain ⟨i, hi, w, hw, _, rfl⟩ := copy_from hc hu hz
    have := hf w hw
    exact ⟨this.1, by show (w.refs.map _).length ≤ k; rw [List.length_map]; exact this.2⟩
theorem put_step (h : setE m word (4096 < text.size) (atI m.nodes x < 0) = 0) (hf : Few k m) : CheckM ⟨m.next, m.nodes.set (atI m.nodes x).toNat (putN word text (nodeOf m x))⟩ ∧ Few (k + 1) ⟨m.next, m.nodes.set (atI m.nodes x).toNat (putN word text (nodeOf m x))⟩ := by
  obtain ⟨h1, h2, h3⟩ := setE_zero h
  obtain ⟨j, hj, _, e2, e3⟩ := at_there h1 (setE_node0 h)
  rw [e2, e3]
  refine ⟨put_check h1 hj h2 (by omega), fun z hz => ?_⟩
  rcases List.mem_or_eq_of_mem_set (show z ∈ m.nodes.set j _ from hz) with e | e
  · exact hf.mono (Nat.le_succ k) z e
  · subst e
    have h4 := hf _ (List.getElem_mem hj)
    have h5 := setK_len (f := AProp.name) (l := m.nodes[j].props) (t := word) (y := ⟨word, text⟩)
    exact ⟨by show (setK AProp.name m.nodes[j].props word ⟨word, text⟩).length ≤ k + 1; omega, by show m.nodes[j].refs.length ≤ k + 1; omega⟩
theorem aim_step (h : setE m word False (atI m.nodes x < 0 ∨ atI m.nodes y < 0) = 0) (hf : Few k m) : CheckM ⟨m.next, m.nodes.set (atI m.nodes x).toNat (aimN word y (nodeOf m x))⟩ ∧ Few (k + 1) ⟨m.next, m.nodes.set (atI m.nodes x).toNat (aimN word y (nodeOf m x))⟩ := by
  obtain ⟨h1, h2, h3⟩ := setE_zero h
  obtain ⟨j, hj, _, e2, e3⟩ := at_there (x := x) h1 (fun e => setE_node0 h (.inl e))
  obtain ⟨j2, hj2, e4, _⟩ := at_there (x := y) h1 (fun e => setE_node0 h (.inr e))
  rw [e2, e3]
  refine ⟨aim_check h1 hj h2 ⟨_, List.getElem_mem hj2, e4⟩, fun z hz => ?_⟩
  rcases List.mem_or_eq_of_mem_set (show z ∈ m.nodes.set j _ from hz) with e | e
  · exact hf.mono (Nat.le_succ k) z e
  · subst e
    have h4 := hf _ (List.getElem_mem hj)
    have h5 := setK_len (f := ARef.role) (l := m.nodes[j].refs) (t := word) (y := ⟨word, y⟩)
    exact ⟨by show m.nodes[j].props.length ≤ k + 1; omega, by show (setK ARef.role m.nodes[j].refs word ⟨word, y⟩).length ≤ k + 1; omega⟩
theorem act_step {n : Nat} (h : actE m n x y role at' word text = 0) (hf : Few k m) : CheckM (actM m n x y role at' word text) ∧ Few (k + 1) (actM m n x y role at' word text) ∧ m.next ≤ (actM m n x y role at' word text).next := by
  unfold actE at h
  unfold actM
  by_cases h0 : n < 2
  · rw [if_pos h0] at h ⊢; exact add_step h hf
  · rw [if_neg h0] at h ⊢
    by_cases h1 : n = 2
    · rw [if_pos h1] at h ⊢; exact ⟨(move_step h hf).1, (move_step h hf).2, Int.le_refl _⟩
    · rw [if_neg h1] at h ⊢
      by_cases h2 : n = 3
      · rw [if_pos h2] at h ⊢; exact ⟨(copy_step h hf).1, (copy_step h hf).2, by show m.next ≤ m.next + (ksL m x).length; omega⟩
      · rw [if_neg h2] at h ⊢
        by_cases h3 : n = 4
        · rw [if_pos h3] at h ⊢; exact ⟨(remove_step h hf).1, (remove_step h hf).2, Int.le_refl _⟩
        · rw [if_neg h3] at h ⊢
          by_cases h4 : n = 5
          · rw [if_pos h4] at h ⊢; exact ⟨(put_step h hf).1, (put_step h hf).2, Int.le_refl _⟩
          · rw [if_neg h4] at h ⊢; exact ⟨(aim_step h hf).1, (aim_step h hf).2, Int.le_refl _⟩
theorem done_step (a : QAct) (hc : CheckM m) (hf : Few k m) : CheckM (doneM m a) ∧ Few (k + 1) (doneM m a) ∧ m.next ≤ (doneM m a).next := by
  unfold doneM
  split
  · exact act_step ‹_› hf
  · exact ⟨hc, hf.mono (Nat.le_succ k), Int.le_refl _⟩
end
end Go.Proofs.Ytmafhaadcjgcbaa
end
