import Derived.Test.YtpkapommekkbcaaDoorANodes
set_option linter.unusedSimpArgs false
set_option linter.unusedVariables false
section
namespace Go.Proofs.YtpkapommekkbcaaDoor
open Go Go.RowKit

/-! ### Rows with a mark in the room behind them -/
def Marked (size : Nat) (u : Value) (w : World) (F : Nat → Prop) (A : Option Addr) (n : Nat) : Prop := ∃ b off, A = some ⟨b, off, none⟩ ∧ F b ∧ w.cell? ⟨b, off + n * size, none⟩ = some u
def IsRowM {α : Type} (size : Nat) (E : World → (Nat → Prop) → α → List Value → Prop) (u : Value) (w : World) (F : Nat → Prop) (v : Value) (l : List α) : Prop :=
  ∃ A c, v = .slice A l.length c ∧ l.length < c ∧ c ≤ maxLen ∧ RowOf size E w F A l ∧ Marked size u w F A l.length
def markStr : Value := .string ⟨#[109, 97, 114, 107]⟩
def ENodeM (w : World) (F : Nat → Prop) (n : ANode) (cs : List Value) : Prop :=
  ∃ vp vk vr, cs = nodeCellsA n vp vk vr ∧ IsRowM 2 EProp markStr w F vp n.props ∧ IsRowM 1 EInt (.int .i64 (-7)) w F vk n.kids ∧ IsRowM 2 ERef markStr w F vr n.refs
def IsModelM (w : World) (F : Nat → Prop) (v : Value) (m : AModel) : Prop := ∃ x, v = .agg #[.int .i64 m.next, x] ∧ IsRowM 7 ENodeM (.int .i64 (-7)) w F x m.nodes

section
variable {α : Type} {size : Nat} {E : World → (Nat → Prop) → α → List Value → Prop} {u : Value} {w w' : World} {F F' : Nat → Prop} {A : Option Addr} {v : Value} {l : List α} {n : Nat}
theorem Marked.keep (h : Marked size u w F A n) (hk : Keep F w w') (hF : ∀ b, F b → F' b) : Marked size u w' F' A n := by
  obtain ⟨b, off, e, hb, hc⟩ := h
  exact ⟨b, off, e, hF b hb, (hk ⟨b, _, none⟩ hb).trans hc⟩
theorem IsRowM.keep (hE : Stays E) (hk : Keep F w w') (hF : ∀ b, F b → F' b) (h : IsRowM size E u w F v l) : IsRowM size E u w' F' v l := by
  obtain ⟨A, c, e, h1, h2, h3, h4⟩ := h
  exact ⟨A, c, e, h1, h2, h3.keep hE hk hF, h4.keep hk hF⟩
theorem IsRowM.plain (h : IsRowM size E u w F v l) : IsRow size E w F v l := by
  obtain ⟨A, c, e, h1, h2, h3, h4⟩ := h
  exact ⟨A, c, e, Nat.le_of_lt h1, h2, h3⟩
theorem ENodeM.stays : Stays ENodeM := fun _ _ _ _ _ _ hF hk ⟨vp, vk, vr, e, h1, h2, h3⟩ => ⟨vp, vk, vr, e, h1.keep EProp.stays hk hF, h2.keep EInt.stays hk hF, h3.keep ERef.stays hk hF⟩
theorem IsModelM.keep {m : AModel} (h : IsModelM w F v m) (hk : Keep F w w') (hF : ∀ b, F b → F' b) : IsModelM w' F' v m := by
  obtain ⟨x, e, hx⟩ := h
  exact ⟨x, e, hx.keep ENodeM.stays hk hF⟩
theorem RowOf.imp {E' : World → (Nat → Prop) → α → List Value → Prop} (h : RowOf size E w F A l) (hi : ∀ x cs, E w F x cs → E' w F x cs) : RowOf size E' w F A l :=
  ⟨h.1, fun i hi' => let ⟨cs, h1, h2, h3⟩ := h.2 i hi'; ⟨cs, h1, hi _ _ h2, h3⟩⟩
theorem ENodeM.plain {x : ANode} {cs : List Value} (h : ENodeM w F x cs) : ENode w F x cs := by
  obtain ⟨vp, vk, vr, e, h1, h2, h3⟩ := h
  exact ⟨vp, vk, vr, e, h1.plain, h2.plain, h3.plain⟩
theorem IsModelM.plain {m : AModel} (h : IsModelM w F v m) : IsModel w F v m := by
  obtain ⟨x, e, hx⟩ := h
  obtain ⟨A, c, e2, h1, h2, h3⟩ := hx.plain
  exact ⟨x, e, A, c, e2, h1, h2, h3.imp fun _ _ h => h.plain⟩

/-- a flat row of the call's own with one element more than is told: the mark -/
theorem IsRowM.of_own {f : α → List Value} (hf : ∀ x, (f x).length = size) (_hs : 0 < size) {base : Nat} {e : TypeId} {g cap n : Nat} {mk : List Value} (hm : mk.length = size)
    (h : w.ownsRow base e size (.slice (some ⟨g, 0, none⟩) n cap) n (l.flatMap f ++ mk)) (hn : n = l.length + 1) (hF : F g) (hu : mk[0]? = some u) : IsRowM size (EFlat f) u w F (.slice (some ⟨g, 0, none⟩) l.length cap) l := by
  subst hn
  have hcells := h.cells (g := g) rfl
  rcases h.2 with ⟨e0, _⟩ | ⟨g', cap', cur, e0, hbg, hh, hnc, hcm, _⟩
  · cases e0
  · injection e0 with e1 _ e2
    injection e1 with e1
    injection e1 with e1
    subst e1; subst e2
    refine ⟨_, _, rfl, hnc, hcm, ⟨fun _ => ⟨g, 0, rfl, hF⟩, fun i hi => ⟨f l[i], hf _, rfl, ?_⟩⟩, g, 0, rfl, hF, ?_⟩
    · intro b off ea j hj
      cases ea
      have hu2 : (f l[i])[j]? = some ((f l[i])[j]'(by rw [hf]; exact hj)) := List.getElem?_eq_getElem _
      have hlt : i * size + j < (l.flatMap f).length := by
        rw [flat_length hf]
        have : (i + 1) * size ≤ l.length * size := Nat.mul_le_mul_right _ hi
        rw [Nat.add_mul] at this; omega
      have := hcells (i * size + j) _ (by rw [List.getElem?_append_left hlt, flat_at hf l i j hi hj]; exact hu2)
      rw [add_some, Nat.zero_add] at this
      rw [Nat.zero_add, this, hu2]
    · have := hcells (l.length * size) u (by rw [List.getElem?_append_right (by rw [flat_length hf]; exact Nat.le_refl _), flat_length hf, Nat.sub_self]; exact hu)
      rw [add_some, Nat.zero_add] at this
      rw [Nat.zero_add]; exact this

def markNode : List Value := nodeCellsA ⟨-7, ByteArray.empty, 0, ByteArray.empty, [], [], []⟩ (.slice none 0 0) (.slice none 0 0) (.slice none 0 0)
/-- nodes, and the mark behind them -/
def ENodeO (w : World) (F : Nat → Prop) (x : Option ANode) (cs : List Value) : Prop := match x with | some n => ENodeM w F n cs | none => cs = markNode
theorem ENodeO.stays : Stays ENodeO := fun w w' F F' x cs hF hk h => by
  cases x with
  | none => exact h
  | some n => exact ENodeM.stays w w' F F' n cs hF hk h
end
end Go.Proofs.YtpkapommekkbcaaDoor
end
section
namespace Go.Proofs.YtpkapommekkbcaaDoor
open Go Go.RowKit

/-! ### All is as it was, but for block p and for what is new -/
structure KeptBut (p : Nat) (v w : World) : Prop where
  os : w.os = v.os
  tape : w.tape = v.tape
  output : w.output = v.output
  size : v.heap.size ≤ w.heap.size
  block : ∀ k, k < v.heap.size → k ≠ p → w.heap[k]? = v.heap[k]?
section
variable {p : Nat} {u v w : World} {F : Nat → Prop}
theorem KeptBut.of_below (h : Below v.heap.size v w) : KeptBut p v w := ⟨h.os, h.tape, h.output, h.size, fun k hk _ => h.block k hk⟩
theorem KeptBut.set_ (h : KeptBut p v w) (i : Nat) (x : Value) : KeptBut p v (w.setCell ⟨p, i, none⟩ x) :=
  ⟨h.os, h.tape, h.output, by simpa using h.size, fun k hk hn => (Below.heap_setCell w _ x k hn).trans (h.block k hk hn)⟩
theorem KeptBut.trans (h : KeptBut p u v) (k : KeptBut p v w) : KeptBut p u w :=
  ⟨k.os.trans h.os, k.tape.trans h.tape, k.output.trans h.output, Nat.le_trans h.size k.size, fun i hi hn => (k.block i (Nat.lt_of_lt_of_le hi h.size) hn).trans (h.block i hi hn)⟩
theorem KeptBut.below {B : Nat} (h : KeptBut p v w) (hB : B ≤ p) (hv : B ≤ v.heap.size) : Below B v w := ⟨h.os, h.tape, h.output, h.size, fun k hk => h.block k (Nat.lt_of_lt_of_le hk hv) (by omega)⟩
theorem KeptBut.keep (h : KeptBut p v w) (hF : ∀ b, F b → b < v.heap.size ∧ b ≠ p) : Keep F v w := fun q hq => World.cell?_of_block (h.block q.block (hF _ hq).1 (hF _ hq).2)
theorem KeptBut.blk {g : Nat} {t : TypeId} {cs : Array Value} (h : KeptBut p v w) (hb : Blk v g t cs) (hne : g ≠ p) : Blk w g t cs := (h.block g hb.lt hne).trans hb
end
theorem own_pos {w : World} {base : Nat} {e : TypeId} {size : Nat} {A : Option Addr} {n c : Nat} {xs : List Value} (h : w.ownsRow base e size (.slice A n c) n xs) (hn : 0 < n) :
    ∃ g, A = some ⟨g, 0, none⟩ ∧ n ≤ c ∧ c ≤ maxLen ∧ base ≤ g ∧ g < w.heap.size := by
  have hlt := h.lt
  rcases h.2 with ⟨e0, e1⟩ | ⟨g, cap, cur, e0, hbg, hh, hnc, hcm, _⟩
  · cases e0; omega
  · injection e0 with e1 _ e2
    subst e1; subst e2
    exact ⟨g, rfl, hnc, hcm, (hlt g rfl).1, (hlt g rfl).2⟩
theorem propCells_one : ∀ x, ∀ u ∈ propCells x, u.oneCell' = true := by
  intro x u hu
  simp only [propCells, List.mem_cons, List.not_mem_nil, or_false] at hu
  rcases hu with rfl | rfl <;> rfl
theorem refCells_one : ∀ x, ∀ u ∈ refCells x, u.oneCell' = true := by
  intro x u hu
  simp only [refCells, List.mem_cons, List.not_mem_nil, or_false] at hu
  rcases hu with rfl | rfl <;> rfl
theorem intCells_one : ∀ x, ∀ u ∈ intCells x, u.oneCell' = true := by
  intro x u hu
  simp only [intCells, List.mem_cons, List.not_mem_nil, or_false] at hu
  rcases hu with rfl; rfl
/-- a row of the call's own behind a store into a block that is none of its -/
theorem OwnRow.far {α : Type} {size : Nat} {e : TypeId} {E : World → (Nat → Prop) → α → List Value → Prop} {F : Nat → Prop} {w : World} {base : Nat} {v : Value} {l : List α} (hE : Stays E) (h : OwnRow size e E F w base v l) {g i : Nat} (hv : v.ownBlock ≠ some g) (hF : ¬ F g) (u : Value) :
    OwnRow size e E F (w.setCell ⟨g, i, none⟩ u) base v l :=
  h.kept (row := some g) hE ⟨rfl, rfl, rfl, by simp, fun k hk hne => Below.heap_setCell _ _ _ _ (fun e => hne (by rw [e]))⟩ (.inr hv) (fun b hb _ e => by cases e; exact hF hb)
end Go.Proofs.YtpkapommekkbcaaDoor
end
