import Derived.Test.YtmafhaadcjgcbaaBase
set_option linter.unusedSimpArgs false
set_option linter.unusedVariables false
section
namespace Go.Proofs.Ytmafhaadcjgcbaa
open Go Go.RowKit

/-! ### Names, as lists of bytes -/
def letterI (x : Int) : Bool := (decide (65 ≤ x) && decide (x ≤ 90)) || (decide (97 ≤ x) && decide (x ≤ 122))
def figureI (x : Int) : Bool := decide (48 ≤ x) && decide (x ≤ 57)
def wordI (x : Int) : Bool := letterI x || figureI x || decide (x = 95)
def letterB (c : UInt8) : Bool := letterI c.toNat
def wordB (c : UInt8) : Bool := wordI c.toNat
def rightB : List UInt8 → Bool
  | [] => false
  | c :: r => decide (r.length < 32) && letterB c && r.all wordB

theorem rightB_of {l : List UInt8} (h0 : 0 < l.length) (h1 : l.length ≤ 32) (h2 : letterB l[0] = true) (h3 : ∀ i (h : i < l.length), wordB l[i] = true) : rightB l = true := by
  cases l with
  | nil => simp at h0
  | cons c r =>
    have : r.all wordB = true := List.all_eq_true.2 fun x hx => by
      obtain ⟨i, hi, rfl⟩ := List.getElem_of_mem hx
      exact h3 (i + 1) (by simpa using hi)
    simp only [rightB, this, Bool.and_true, Bool.and_eq_true, decide_eq_true_eq]
    exact ⟨by simp at h1; omega, h2⟩
theorem rightB_no {l : List UInt8} {i : Nat} (h : i < l.length) (h3 : wordB l[i] = false) : rightB l = false := by
  cases l with
  | nil => rfl
  | cons c r =>
    cases i with
    | zero =>
      have hl : letterB c = false := by
        simp only [List.getElem_cons_zero, wordB, wordI] at h3
        unfold letterB; simp only [Bool.or_eq_false_iff] at h3; exact h3.1.1
      simp [rightB, hl]
    | succ i =>
      have hi : i < r.length := by simpa using h
      have : r.all wordB = false := List.all_eq_false.2 ⟨r[i], List.getElem_mem _, by simpa using h3⟩
      simp [rightB, this]
theorem rightB_long {l : List UInt8} (h : 32 < l.length) : rightB l = false := by
  cases l with
  | nil => rfl
  | cons c r => have : decide (r.length < 32) = false := by simp at h ⊢; omega
                simp [rightB, this]
theorem rightB_head {l : List UInt8} (h : 0 < l.length) (h2 : letterB l[0] = false) : rightB l = false := by
  cases l with
  | nil => rfl
  | cons c r => simp at h2; simp [rightB, h2]
/-! ### Numbers, as lists of bytes -/
end Go.Proofs.Ytmafhaadcjgcbaa
end
section
namespace Go.Proofs.Ytmafhaadcjgcbaa
open Go Go.RowKit

/-! ### Models, and what one is, in plain Lean -/
structure AProp where
  name : ByteArray
  value : ByteArray
structure ARef where
  role : ByteArray
  target : Int
structure ANode where
  id : Int
  concept : ByteArray
  parent : Int
  role : ByteArray
  props : List AProp
  kids : List Int
  refs : List ARef
structure AModel where
  next : Int
  nodes : List ANode

def strip (l : List UInt8) : List UInt8 := if l.head? = some 63 then l.tail else l
/-- a word: a name, a question mark ahead of it or none -/
def wordA (s : ByteArray) : Bool := rightB (strip s.data.toList)
/-- a text is not less than another: as the model of the language reckons it -/
def geS (a b : ByteArray) : Bool := !(Op.bytesLess a.toList b.toList)

def PropAt (l : List AProp) (i : Nat) : Prop := ∀ h : i < l.length, wordA l[i].name = true ∧ l[i].value.size ≤ 4096 ∧ (0 < i → geS (l[i - 1]'(by omega)).name l[i].name = false)
def PropsOK (l : List AProp) : Prop := ∀ i, PropAt l i
def RefAt (next : Int) (l : List ARef) (i : Nat) : Prop := ∀ h : i < l.length, wordA l[i].role = true ∧ 1 ≤ l[i].target ∧ l[i].target < next ∧ (0 < i → geS (l[i - 1]'(by omega)).role l[i].role = false)
def RefsOK (next : Int) (l : List ARef) : Prop := ∀ i, RefAt next l i

def IdAt (m : AModel) (i : Nat) : Prop := ∀ h : i < m.nodes.length, 1 ≤ m.nodes[i].id ∧ m.nodes[i].id < m.next ∧ (0 < i → (m.nodes[i - 1]'(by omega)).id < m.nodes[i].id)
def HeadOK (m : AModel) : Prop := 1 ≤ m.next ∧ m.next ≤ 1048577 ∧ m.nodes.length ≤ 4096
def IdsOK (m : AModel) : Prop := HeadOK m ∧ ∀ i, IdAt m i

def Alone (m : AModel) (n : ANode) : Prop :=
  wordA n.concept = true ∧ (n.parent = 0 ↔ n.role.size = 0) ∧ (n.role.size ≠ 0 → wordA n.role = true) ∧ n.kids.length ≤ m.nodes.length ∧ PropsOK n.props ∧ RefsOK m.next n.refs
def KidAt (m : AModel) (id : Int) (k : Int) : Prop := ∃ x ∈ m.nodes, x.id = k ∧ x.parent = id
def KidsAt (m : AModel) (n : ANode) : Prop := ∀ k ∈ n.kids, KidAt m n.id k
/-- how often a number is a kid -/
def cnt (l : List ANode) (id : Int) : Nat := (l.flatMap ANode.kids).count id
def Met (m : AModel) (x : ANode) : Prop := (x.parent = 0 → cnt m.nodes x.id = 0) ∧ (x.parent ≠ 0 → cnt m.nodes x.id = 1)
def Up (m : AModel) : Nat → ANode → Prop
  | 0, _ => False
  | f + 1, n => n.parent = 0 ∨ ∃ x ∈ m.nodes, x.id = n.parent ∧ Up m f x
def CheckM (m : AModel) : Prop := IdsOK m ∧ (∀ n ∈ m.nodes, Alone m n) ∧ (∀ n ∈ m.nodes, KidsAt m n) ∧ (∀ n ∈ m.nodes, Met m n) ∧ ∀ n ∈ m.nodes, Up m 64 n

def Bel (m : AModel) : Nat → ANode → Prop
  | 0, _ => False
  | f + 1, n => (n.parent = 0 ∧ n.role.size = 0) ∨ (n.parent ≠ 0 ∧ ∃ x ∈ m.nodes, x.id = n.parent ∧ wordA n.role = true ∧ n.id ∈ x.kids ∧ Bel m f x)
def Plain (m : AModel) (n : ANode) : Prop :=
  wordA n.concept = true ∧ n.kids.length ≤ m.nodes.length ∧ PropsOK n.props ∧ RefsOK m.next n.refs ∧ KidsAt m n ∧ n.kids.Nodup
section
variable {m : AModel}
theorem ids_lt (h : ∀ i, IdAt m i) : ∀ i j (hi : i < m.nodes.length) (hj : j < m.nodes.length), i < j → m.nodes[i].id < m.nodes[j].id := by
  intro i j
  induction j with
  | zero => intro hi hj hij; omega
  | succ j ih =>
    intro hi hj hij
    have h1 := (h (j + 1) hj).2.2 (by omega)
    simp only [Nat.add_sub_cancel] at h1
    by_cases e : i = j
    · subst e; exact h1
    · have := ih hi (by omega) (by omega); omega
theorem ids_inj (h : ∀ i, IdAt m i) {i j : Nat} (hi : i < m.nodes.length) (hj : j < m.nodes.length) (e : m.nodes[i].id = m.nodes[j].id) : i = j := by
  rcases Nat.lt_trichotomy i j with h1 | h1 | h1
  · have := ids_lt h i j hi hj h1; omega
  · exact h1
  · have := ids_lt h j i hj hi h1; omega
theorem node_inj (h : ∀ i, IdAt m i) {x y : ANode} (hx : x ∈ m.nodes) (hy : y ∈ m.nodes) (e : x.id = y.id) : x = y := by
  obtain ⟨i, hi, rfl⟩ := List.getElem_of_mem hx
  obtain ⟨j, hj, rfl⟩ := List.getElem_of_mem hy
  have := ids_inj h hi hj e
  subst this; rfl
theorem id_pos (h : ∀ i, IdAt m i) {x : ANode} (hx : x ∈ m.nodes) : 1 ≤ x.id := by
  obtain ⟨i, hi, rfl⟩ := List.getElem_of_mem hx
  exact (h i hi).1
theorem cnt_mem {l : List ANode} {id : Int} (h : 0 < cnt l id) : ∃ y ∈ l, id ∈ y.kids := by
  have := List.count_pos_iff.1 h
  obtain ⟨y, hy, h2⟩ := List.mem_flatMap.1 this
  exact ⟨y, hy, h2⟩
theorem cnt_le {l : List ANode} {y : ANode} (hy : y ∈ l) (id : Int) : y.kids.count id ≤ cnt l id := by
  obtain ⟨s, t, rfl⟩ := List.append_of_mem hy
  unfold cnt; rw [List.flatMap_append, List.flatMap_cons, List.count_append, List.count_append]; omega
theorem cnt_zero {l : List ANode} {id : Int} (h : ∀ y ∈ l, id ∉ y.kids) : cnt l id = 0 := by
  rcases Nat.eq_zero_or_pos (cnt l id) with h0 | h0
  · exact h0
  · obtain ⟨y, hy, h2⟩ := cnt_mem h0; exact absurd h2 (h y hy)
theorem cnt_append (a b : List ANode) (id : Int) : cnt (a ++ b) id = cnt a id + cnt b id := by
  unfold cnt; rw [List.flatMap_append, List.count_append]
theorem cnt_cons (y : ANode) (b : List ANode) (id : Int) : cnt (y :: b) id = y.kids.count id + cnt b id := by
  unfold cnt; rw [List.flatMap_cons, List.count_append]

end
end Go.Proofs.Ytmafhaadcjgcbaa
end
