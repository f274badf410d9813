import Derived.Test.YtpjkifbicfcajaaAMarks
set_option linter.unusedSimpArgs false
set_option linter.unusedVariables false
namespace Go.Proofs.Ytpjkifbicfcajaa
open Go Go.RowKit

/-! ### All is as it was, but for block p and for what is new -/
structure KeptBut (p : Nat) (v w : World) : Prop where
  os : w.os = v.os
  tape : w.tape = v.tape
  output : w.output = v.output
  size : v.heap.size ≤ w.heap.size
  block : ∀ k, k < v.heap.size → k ≠ p → w.heap[k]? = v.heap[k]?
section
variable {p : Nat} {u v w : World} {F : Nat → Prop}
theorem KeptBut.of_below (h : Below v.heap.size v w) : KeptBut p v w := ⟨h.os, h.tape, h.output, h.size, fun k hk _ => h.block k hk⟩
theorem KeptBut.set_ (h : KeptBut p v w) (i : Nat) (x : Value) : KeptBut p v (w.setCell ⟨p, i, none⟩ x) :=
  ⟨h.os, h.tape, h.output, by simpa using h.size, fun k hk hn => (Below.heap_setCell w _ x k hn).trans (h.block k hk hn)⟩
theorem KeptBut.trans (h : KeptBut p u v) (k : KeptBut p v w) : KeptBut p u w :=
  ⟨k.os.trans h.os, k.tape.trans h.tape, k.output.trans h.output, Nat.le_trans h.size k.size, fun i hi hn => (k.block i (Nat.lt_of_lt_of_le hi h.size) hn).trans (h.block i hi hn)⟩
theorem KeptBut.below {B : Nat} (h : KeptBut p v w) (hB : B ≤ p) (hv : B ≤ v.heap.size) : Below B v w := ⟨h.os, h.tape, h.output, h.size, fun k hk => h.block k (Nat.lt_of_lt_of_le hk hv) (by omega)⟩
theorem KeptBut.keep (h : KeptBut p v w) (hF : ∀ b, F b → b < v.heap.size ∧ b ≠ p) : Keep F v w := fun q hq => World.cell?_of_block (h.block q.block (hF _ hq).1 (hF _ hq).2)
theorem KeptBut.blk {g : Nat} {t : TypeId} {cs : Array Value} (h : KeptBut p v w) (hb : Blk v g t cs) (hne : g ≠ p) : Blk w g t cs := (h.block g hb.lt hne).trans hb
end
theorem own_pos {w : World} {base : Nat} {e : TypeId} {size : Nat} {A : Option Addr} {n c : Nat} {xs : List Value} (h : w.ownsRow base e size (.slice A n c) n xs) (hn : 0 < n) :
    ∃ g, A = some ⟨g, 0, none⟩ ∧ n ≤ c ∧ c ≤ maxLen ∧ base ≤ g ∧ g < w.heap.size := by
  have hlt := h.lt
  rcases h.2 with ⟨e0, e1⟩ | ⟨g, cap, cur, e0, hbg, hh, hnc, hcm, _⟩
  · cases e0; omega
  · injection e0 with e1 _ e2
    subst e1; subst e2
    exact ⟨g, rfl, hnc, hcm, (hlt g rfl).1, (hlt g rfl).2⟩
/-- what one of lent's rows leaves -/
theorem lent_row {α : Type} {size : Nat} {f : α → List Value} (hf : ∀ x, (f x).length = size) (hs : 0 < size) {mk : List Value} (hm : mk.length = size) {v w2 : World} {p j : Nat} {e T : TypeId} {cs : Array Value} {l : List α} {A2 : Option Addr} {c2 : Nat} {u : Value}
    (hX : Blk v p T cs) (hb : Below v.heap.size v w2) (own : w2.ownsRow v.heap.size e size (.slice A2 (l.length + 1) c2) (l.length + 1) (l.flatMap f ++ mk)) (hu : mk[0]? = some u) :
    KeptBut p v (w2.setCell ⟨p, j, none⟩ (.slice A2 l.length c2)) ∧ Blk (w2.setCell ⟨p, j, none⟩ (.slice A2 l.length c2)) p T (cs.setIfInBounds j (.slice A2 l.length c2)) ∧
    IsRowM size (EFlat f) u (w2.setCell ⟨p, j, none⟩ (.slice A2 l.length c2)) (fun b => v.heap.size ≤ b ∧ b < (w2.setCell ⟨p, j, none⟩ (.slice A2 l.length c2)).heap.size) (.slice A2 l.length c2) l := by
  obtain ⟨g, rfl, h1, h2, h3, h4⟩ := own_pos own (by omega)
  have hp := hX.lt
  refine ⟨(KeptBut.of_below hb).set_ j _, (hX.below hb hp).set_ j _, ?_⟩
  have h5 := IsRowM.of_own (u := u) (F := fun b => v.heap.size ≤ b ∧ b < w2.heap.size) hf hs hm own rfl ⟨h3, h4⟩ hu
  refine h5.keep (EFlat.stays f) ?_ (fun b hb => ⟨hb.1, by simpa using hb.2⟩)
  intro q hq
  have hq : v.heap.size ≤ q.block ∧ q.block < w2.heap.size := hq
  exact World.cell?_of_block (Below.heap_setCell w2 _ _ q.block (by show q.block ≠ p; omega))
theorem lent_keep {α : Type} {size : Nat} {f : α → List Value} {u x : Value} {v w : World} {p B : Nat} {l : List α} (h : IsRowM size (EFlat f) u v (fun b => B ≤ b ∧ b < v.heap.size) x l) (hk : KeptBut p v w) (hp : p < B) :
    IsRowM size (EFlat f) u w (fun b => B ≤ b ∧ b < w.heap.size) x l :=
  h.keep (EFlat.stays f) (hk.keep (fun b hb => ⟨hb.2, by omega⟩)) (fun b hb => ⟨hb.1, Nat.lt_of_lt_of_le hb.2 hk.size⟩)
theorem flat_one {α : Type} {f : α → List Value} (h1 : ∀ x, ∀ u ∈ f x, u.oneCell' = true) (l : List α) : ∀ u ∈ l.flatMap f, u.oneCell' = true := by
  intro u hu
  obtain ⟨x, _, hx⟩ := List.mem_flatMap.1 hu
  exact h1 x u hx
theorem propCells_one : ∀ x, ∀ u ∈ propCells x, u.oneCell' = true := by
  intro x u hu
  simp only [propCells, List.mem_cons, List.not_mem_nil, or_false] at hu
  rcases hu with rfl | rfl <;> rfl
theorem refCells_one : ∀ x, ∀ u ∈ refCells x, u.oneCell' = true := by
  intro x u hu
  simp only [refCells, List.mem_cons, List.not_mem_nil, or_false] at hu
  rcases hu with rfl | rfl <;> rfl
theorem intCells_one : ∀ x, ∀ u ∈ intCells x, u.oneCell' = true := by
  intro x u hu
  simp only [intCells, List.mem_cons, List.not_mem_nil, or_false] at hu
  rcases hu with rfl; rfl
/-- a row of the call's own behind a store into a block that is none of its -/
theorem OwnRow.far {α : Type} {size : Nat} {e : TypeId} {E : World → (Nat → Prop) → α → List Value → Prop} {F : Nat → Prop} {w : World} {base : Nat} {v : Value} {l : List α} (hE : Stays E) (h : OwnRow size e E F w base v l) {g i : Nat} (hv : v.ownBlock ≠ some g) (hF : ¬ F g) (u : Value) :
    OwnRow size e E F (w.setCell ⟨g, i, none⟩ u) base v l :=
  h.kept (row := some g) hE ⟨rfl, rfl, rfl, by simp, fun k hk hne => Below.heap_setCell _ _ _ _ (fun e => hne (by rw [e]))⟩ (.inr hv) (fun b hb _ e => by cases e; exact hF hb)
theorem own_ge {α : Type} {size : Nat} {e : TypeId} {E : World → (Nat → Prop) → α → List Value → Prop} {F : Nat → Prop} {w : World} {base : Nat} {v : Value} {l : List α} (h : OwnRow size e E F w base v l) : ∀ g, v.ownBlock = some g → base ≤ g ∧ g < w.heap.size := by
  obtain ⟨xs, hx⟩ := h.owns
  exact hx.lt
end Go.Proofs.Ytpjkifbicfcajaa
