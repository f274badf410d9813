import Derived.Test.YtmafhaadcjgcbaaAOwnI
set_option linter.unusedSimpArgs false
set_option linter.unusedVariables false
namespace Go.Proofs.Ytmafhaadcjgcbaa
open Go Go.RowKit

/-! ### Lists that may be written over -/
/-- elements that lie at B or above, below T, not in block g, and may be written -/
def WrR (size B T g : Nat) (w : World) (A : Option Addr) (n : Nat) : Prop :=
  ∀ i, i < n → ∃ b off, A = some ⟨b, off, none⟩ ∧ B ≤ b ∧ b < T ∧ b ≠ g ∧ ∀ j, j < size → (w.cell? ⟨b, off + i * size + j, none⟩).isSome = true ∧ w.frozen? ⟨b, off + i * size + j, none⟩ = false
section
variable {size B T g n : Nat} {w w' : World} {A : Option Addr}
theorem WrR.set_ (h : WrR size B T g w A n) (p : Addr) (u : Value) : WrR size B T g (w.setCell p u) A n := fun i hi => by
  obtain ⟨b, off, e, h1, h2, h3, h4⟩ := h i hi
  refine ⟨b, off, e, h1, h2, h3, fun j hj => ⟨?_, by rw [World.frozen?_setCell]; exact (h4 j hj).2⟩⟩
  by_cases hp : p = ⟨b, off + i * size + j, none⟩
  · subst hp; rw [World.cell?_setCell_same' _ _ _ (h4 j hj).1]; rfl
  · rw [World.cell?_setCell_other (h := hp)]; exact (h4 j hj).1
theorem WrR.below (h : WrR size B T g w A n) (hb : Below T w w') : WrR size B T g w' A n := fun i hi => by
  obtain ⟨b, off, e, h1, h2, h3, h4⟩ := h i hi
  refine ⟨b, off, e, h1, h2, h3, fun j hj => ?_⟩
  rw [World.cell?_of_block (hb.block b h2), World.frozen?_of_block (w := w) (a := ⟨b, _, none⟩) (hb.block b h2)]
  exact h4 j hj
theorem WrR.nil (A : Option Addr) : WrR size B T g w A 0 := fun _ h => absurd h (Nat.not_lt_zero _)
end
/-- a node as its cells lie -/
structure RN where
  id : Int
  con : ByteArray
  par : Int
  role : ByteArray
  P : Option Addr
  np : Nat
  cp : Nat
  K : Option Addr
  nk : Nat
  ck : Nat
  R : Option Addr
  nr : Nat
  cr : Nat
def RN.cells (x : RN) : Array Value := #[.int .i64 x.id, .string x.con, .int .i64 x.par, .string x.role, .slice x.P x.np x.cp, .slice x.K x.nk x.ck, .slice x.R x.nr x.cr]
def RN.Wr (B T g : Nat) (w : World) (x : RN) : Prop := WrR 2 B T g w x.P x.np ∧ WrR 1 B T g w x.K x.nk ∧ WrR 2 B T g w x.R x.nr
def RN.Len (x : RN) : Prop := x.np ≤ 9223372036854775807 ∧ x.nk ≤ 9223372036854775807 ∧ x.nr ≤ 9223372036854775807
def WrAll (B T g : Nat) (ns : List RN) (w : World) : Prop := ∀ x ∈ ns, x.Wr B T g w
theorem WrAll.set_ {B T g : Nat} {ns : List RN} {w : World} (h : WrAll B T g ns w) (p : Addr) (u : Value) : WrAll B T g ns (w.setCell p u) := fun x hx => ⟨(h x hx).1.set_ p u, (h x hx).2.1.set_ p u, (h x hx).2.2.set_ p u⟩
theorem WrAll.below {B T g : Nat} {ns : List RN} {w w' : World} (h : WrAll B T g ns w) (hb : Below T w w') : WrAll B T g ns w' := fun x hx => ⟨(h x hx).1.below hb, (h x hx).2.1.below hb, (h x hx).2.2.below hb⟩
/-- a block of nodes, those from i on as they were -/
def NodesFrom (w : World) (g : Nat) (ns : List RN) (i : Nat) : Prop :=
  ∃ cs, Blk w g 38 cs ∧ ns.length * 7 ≤ cs.size ∧ ∀ k (h : k < ns.length), i ≤ k → ∀ j, j < 7 → cs[k * 7 + j]? = ns[k].cells[j]?
section
variable {w w' : World} {g i : Nat} {ns : List RN}
theorem NodesFrom.far (h : NodesFrom w g ns i) {p : Addr} (hp : g ≠ p.block) (u : Value) : NodesFrom (w.setCell p u) g ns i := by
  obtain ⟨cs, h1, h2⟩ := h
  exact ⟨cs, h1.far hp u, h2⟩
theorem NodesFrom.below {T : Nat} (h : NodesFrom w g ns i) (hb : Below T w w') (hg : g < T) : NodesFrom w' g ns i := by
  obtain ⟨cs, h1, h2⟩ := h
  exact ⟨cs, h1.below hb hg, h2⟩
theorem NodesFrom.next (h : NodesFrom w g ns i) (u : Value) : NodesFrom (w.setCell ⟨g, i * 7, none⟩ u) g ns (i + 1) := by
  obtain ⟨cs, h1, h2, h3⟩ := h
  refine ⟨_, h1.set_ (i * 7) u, by simpa using h2, fun k hk hik j hj => ?_⟩
  rw [← h3 k hk (by omega) j hj, Array.getElem?_setIfInBounds_ne (by omega)]
theorem NodesFrom.at_ (h : NodesFrom w g ns i) (hi : i < ns.length) : (∀ j, j < 7 → w.cell? ⟨g, i * 7 + j, none⟩ = ns[i].cells[j]?) ∧ ∀ j, w.frozen? ⟨g, j, none⟩ = false := by
  obtain ⟨cs, h1, h2, h3⟩ := h
  exact ⟨fun j hj => by rw [h1.cell, h3 i hi (Nat.le_refl _) j hj], fun j => h1.frozen j⟩
end

end Go.Proofs.Ytmafhaadcjgcbaa
