import Derived.Test.YtpkapommekkbcaaDoorBase
set_option linter.unusedSimpArgs false
set_option linter.unusedVariables false
section
namespace Go.Proofs.YtpkapommekkbcaaDoor
open Go Go.RowKit

/-! ### Names, as lists of bytes -/
def letterI (x : Int) : Bool := (decide (65 ≤ x) && decide (x ≤ 90)) || (decide (97 ≤ x) && decide (x ≤ 122))
def figureI (x : Int) : Bool := decide (48 ≤ x) && decide (x ≤ 57)
def wordI (x : Int) : Bool := letterI x || figureI x || decide (x = 95)
def letterB (c : UInt8) : Bool := letterI c.toNat
def wordB (c : UInt8) : Bool := wordI c.toNat
def rightB : List UInt8 → Bool
  | [] => false
  | c :: r => decide (r.length < 32) && letterB c && r.all wordB

theorem rightB_of {l : List UInt8} (h0 : 0 < l.length) (h1 : l.length ≤ 32) (h2 : letterB l[0] = true) (h3 : ∀ i (h : i < l.length), wordB l[i] = true) : rightB l = true := by
  cases l with
  | nil => simp at h0
  | cons c r =>
    have : r.all wordB = true := List.all_eq_true.2 fun x hx => by
      obtain ⟨i, hi, rfl⟩ := List.getElem_of_mem hx
      exact h3 (i + 1) (by simpa using hi)
    simp only [rightB, this, Bool.and_true, Bool.and_eq_true, decide_eq_true_eq]
    exact ⟨by simp at h1; omega, h2⟩
theorem rightB_no {l : List UInt8} {i : Nat} (h : i < l.length) (h3 : wordB l[i] = false) : rightB l = false := by
  cases l with
  | nil => rfl
  | cons c r =>
    cases i with
    | zero =>
      have hl : letterB c = false := by
        simp only [List.getElem_cons_zero, wordB, wordI] at h3
        unfold letterB; simp only [Bool.or_eq_false_iff] at h3; exact h3.1.1
      simp [rightB, hl]
    | succ i =>
      have hi : i < r.length := by simpa using h
      have : r.all wordB = false := List.all_eq_false.2 ⟨r[i], List.getElem_mem _, by simpa using h3⟩
      simp [rightB, this]
theorem rightB_long {l : List UInt8} (h : 32 < l.length) : rightB l = false := by
  cases l with
  | nil => rfl
  | cons c r => have : decide (r.length < 32) = false := by simp at h ⊢; omega
                simp [rightB, this]
theorem rightB_head {l : List UInt8} (h : 0 < l.length) (h2 : letterB l[0] = false) : rightB l = false := by
  cases l with
  | nil => rfl
  | cons c r => simp at h2; simp [rightB, h2]
/-! ### Numbers, as lists of bytes -/
end Go.Proofs.YtpkapommekkbcaaDoor
end
section
namespace Go.Proofs.YtpkapommekkbcaaDoor
open Go Go.RowKit

/-! ### Models, and what one is, in plain Lean -/
structure AProp where
  name : ByteArray
  value : ByteArray
structure ARef where
  role : ByteArray
  target : Int
structure ANode where
  id : Int
  concept : ByteArray
  parent : Int
  role : ByteArray
  props : List AProp
  kids : List Int
  refs : List ARef
structure AModel where
  next : Int
  nodes : List ANode

def strip (l : List UInt8) : List UInt8 := if l.head? = some 63 then l.tail else l
/-- a word: a name, a question mark ahead of it or none -/
def wordA (s : ByteArray) : Bool := rightB (strip s.data.toList)
/-- a text is not less than another: as the model of the language reckons it -/
def geS (a b : ByteArray) : Bool := !(Op.bytesLess a.toList b.toList)

def PropAt (l : List AProp) (i : Nat) : Prop := ∀ h : i < l.length, wordA l[i].name = true ∧ l[i].value.size ≤ 4096 ∧ (0 < i → geS (l[i - 1]'(by omega)).name l[i].name = false)
def PropsOK (l : List AProp) : Prop := ∀ i, PropAt l i
def RefAt (next : Int) (l : List ARef) (i : Nat) : Prop := ∀ h : i < l.length, wordA l[i].role = true ∧ 1 ≤ l[i].target ∧ l[i].target < next ∧ (0 < i → geS (l[i - 1]'(by omega)).role l[i].role = false)
def RefsOK (next : Int) (l : List ARef) : Prop := ∀ i, RefAt next l i

def IdAt (m : AModel) (i : Nat) : Prop := ∀ h : i < m.nodes.length, 1 ≤ m.nodes[i].id ∧ m.nodes[i].id < m.next ∧ (0 < i → (m.nodes[i - 1]'(by omega)).id < m.nodes[i].id)
def HeadOK (m : AModel) : Prop := 1 ≤ m.next ∧ m.next ≤ 1048577 ∧ m.nodes.length ≤ 4096
def IdsOK (m : AModel) : Prop := HeadOK m ∧ ∀ i, IdAt m i

def Alone (m : AModel) (n : ANode) : Prop :=
  wordA n.concept = true ∧ (n.parent = 0 ↔ n.role.size = 0) ∧ (n.role.size ≠ 0 → wordA n.role = true) ∧ n.kids.length ≤ m.nodes.length ∧ PropsOK n.props ∧ RefsOK m.next n.refs
def KidAt (m : AModel) (id : Int) (k : Int) : Prop := ∃ x ∈ m.nodes, x.id = k ∧ x.parent = id
def KidsAt (m : AModel) (n : ANode) : Prop := ∀ k ∈ n.kids, KidAt m n.id k
/-- how often a number is a kid -/
def cnt (l : List ANode) (id : Int) : Nat := (l.flatMap ANode.kids).count id
def Met (m : AModel) (x : ANode) : Prop := (x.parent = 0 → cnt m.nodes x.id = 0) ∧ (x.parent ≠ 0 → cnt m.nodes x.id = 1)
def Up (m : AModel) : Nat → ANode → Prop
  | 0, _ => False
  | f + 1, n => n.parent = 0 ∨ ∃ x ∈ m.nodes, x.id = n.parent ∧ Up m f x
def CheckM (m : AModel) : Prop := IdsOK m ∧ (∀ n ∈ m.nodes, Alone m n) ∧ (∀ n ∈ m.nodes, KidsAt m n) ∧ (∀ n ∈ m.nodes, Met m n) ∧ ∀ n ∈ m.nodes, Up m 64 n

def Bel (m : AModel) : Nat → ANode → Prop
  | 0, _ => False
  | f + 1, n => (n.parent = 0 ∧ n.role.size = 0) ∨ (n.parent ≠ 0 ∧ ∃ x ∈ m.nodes, x.id = n.parent ∧ wordA n.role = true ∧ n.id ∈ x.kids ∧ Bel m f x)
def Plain (m : AModel) (n : ANode) : Prop :=
  wordA n.concept = true ∧ n.kids.length ≤ m.nodes.length ∧ PropsOK n.props ∧ RefsOK m.next n.refs ∧ KidsAt m n ∧ n.kids.Nodup
def RightM (m : AModel) : Prop := IdsOK m ∧ ∀ n ∈ m.nodes, Plain m n ∧ Bel m 64 n

section
variable {m : AModel}
theorem ids_lt (h : ∀ i, IdAt m i) : ∀ i j (hi : i < m.nodes.length) (hj : j < m.nodes.length), i < j → m.nodes[i].id < m.nodes[j].id := by
  intro i j
  induction j with
  | zero => intro hi hj hij; omega
  | succ j ih =>
    intro hi hj hij
    have h1 := (h (j + 1) hj).2.2 (by omega)
    simp only [Nat.add_sub_cancel] at h1
    by_cases e : i = j
    · subst e; exact h1
    · have := ih hi (by omega) (by omega); omega
theorem ids_inj (h : ∀ i, IdAt m i) {i j : Nat} (hi : i < m.nodes.length) (hj : j < m.nodes.length) (e : m.nodes[i].id = m.nodes[j].id) : i = j := by
  rcases Nat.lt_trichotomy i j with h1 | h1 | h1
  · have := ids_lt h i j hi hj h1; omega
  · exact h1
  · have := ids_lt h j i hj hi h1; omega
theorem node_inj (h : ∀ i, IdAt m i) {x y : ANode} (hx : x ∈ m.nodes) (hy : y ∈ m.nodes) (e : x.id = y.id) : x = y := by
  obtain ⟨i, hi, rfl⟩ := List.getElem_of_mem hx
  obtain ⟨j, hj, rfl⟩ := List.getElem_of_mem hy
  have := ids_inj h hi hj e
  subst this; rfl
theorem id_pos (h : ∀ i, IdAt m i) {x : ANode} (hx : x ∈ m.nodes) : 1 ≤ x.id := by
  obtain ⟨i, hi, rfl⟩ := List.getElem_of_mem hx
  exact (h i hi).1
theorem wordA_ne {s : ByteArray} (h : wordA s = true) : s.size ≠ 0 := by
  intro e
  have : s.data.toList = [] := List.eq_nil_of_length_eq_zero e
  unfold wordA at h; rw [this] at h; simp [strip, rightB] at h
theorem cnt_mem {l : List ANode} {id : Int} (h : 0 < cnt l id) : ∃ y ∈ l, id ∈ y.kids := by
  have := List.count_pos_iff.1 h
  obtain ⟨y, hy, h2⟩ := List.mem_flatMap.1 this
  exact ⟨y, hy, h2⟩
theorem cnt_le {l : List ANode} {y : ANode} (hy : y ∈ l) (id : Int) : y.kids.count id ≤ cnt l id := by
  obtain ⟨s, t, rfl⟩ := List.append_of_mem hy
  unfold cnt; rw [List.flatMap_append, List.flatMap_cons, List.count_append, List.count_append]; omega
theorem cnt_zero {l : List ANode} {id : Int} (h : ∀ y ∈ l, id ∉ y.kids) : cnt l id = 0 := by
  rcases Nat.eq_zero_or_pos (cnt l id) with h0 | h0
  · exact h0
  · obtain ⟨y, hy, h2⟩ := cnt_mem h0; exact absurd h2 (h y hy)
theorem cnt_append (a b : List ANode) (id : Int) : cnt (a ++ b) id = cnt a id + cnt b id := by
  unfold cnt; rw [List.flatMap_append, List.count_append]
theorem cnt_cons (y : ANode) (b : List ANode) (id : Int) : cnt (y :: b) id = y.kids.count id + cnt b id := by
  unfold cnt; rw [List.flatMap_cons, List.count_append]

theorem right_of_check (h : CheckM m) : RightM m := by
  obtain ⟨hI, hA, hK, hM, hU⟩ := h
  have hi := hI.2
  have own : ∀ y ∈ m.nodes, ∀ n ∈ m.nodes, n.id ∈ y.kids → n.parent = y.id := by
    intro y hy n hn hk
    obtain ⟨z, hz, e1, e2⟩ := hK y hy n.id hk
    rw [← node_inj hi hz hn e1]; exact e2
  have hB : ∀ f, ∀ n ∈ m.nodes, Up m f n → Bel m f n := by
    intro f
    induction f with
    | zero => intro n _ h; exact h
    | succ f ih =>
      intro n hn h
      obtain ⟨a1, a2, a3, _⟩ := hA n hn
      by_cases h0 : n.parent = 0
      · exact .inl ⟨h0, a2.1 h0⟩
      · rcases h with h | ⟨x, hx, e, hu⟩
        · exact absurd h h0
        · have hc := (hM n hn).2 h0
          obtain ⟨y, hy, hk⟩ := cnt_mem (l := m.nodes) (id := n.id) (by omega)
          have e2 := own y hy n hn hk
          have : x = y := node_inj hi hx hy (by omega)
          subst this
          exact .inr ⟨h0, x, hx, e, a3 (fun e0 => h0 (a2.2 e0)), hk, ih x hx hu⟩
  refine ⟨hI, fun n hn => ⟨?_, hB 64 n hn (hU n hn)⟩⟩
  obtain ⟨a1, a2, a3, a4, a5, a6⟩ := hA n hn
  refine ⟨a1, a4, a5, a6, hK n hn, List.nodup_iff_count.2 fun k => ?_⟩
  by_cases hk : k ∈ n.kids
  · obtain ⟨x, hx, e1, e2⟩ := hK n hn k hk
    have hc := (hM x hx).2 (by have := id_pos hi hn; omega)
    have := cnt_le hn k
    rw [← e1] at this ⊢
    omega
  · rw [List.count_eq_zero.2 hk]; omega
theorem check_of_right (h : RightM m) : CheckM m := by
  obtain ⟨hI, hP⟩ := h
  have hi := hI.2
  have hK : ∀ n ∈ m.nodes, KidsAt m n := fun n hn => (hP n hn).1.2.2.2.2.1
  have own : ∀ y ∈ m.nodes, ∀ n ∈ m.nodes, n.id ∈ y.kids → n.parent = y.id := by
    intro y hy n hn hk
    obtain ⟨z, hz, e1, e2⟩ := hK y hy n.id hk
    rw [← node_inj hi hz hn e1]; exact e2
  have hB : ∀ f n, Bel m f n → Up m f n := by
    intro f
    induction f with
    | zero => intro n h; exact h
    | succ f ih =>
      intro n h
      rcases h with ⟨h0, _⟩ | ⟨_, x, hx, e, _, _, hb⟩
      · exact .inl h0
      · exact .inr ⟨x, hx, e, ih x hb⟩
  refine ⟨hI, fun n hn => ?_, hK, fun n hn => ⟨fun h0 => ?_, fun h0 => ?_⟩, fun n hn => hB 64 n (hP n hn).2⟩
  · obtain ⟨⟨p1, p2, p3, p4, _⟩, hb⟩ := hP n hn
    rcases hb with ⟨h0, h1⟩ | ⟨h0, x, hx, e, hw, _⟩
    · exact ⟨p1, ⟨fun _ => h1, fun _ => h0⟩, fun h2 => absurd h1 h2, p2, p3, p4⟩
    · exact ⟨p1, ⟨fun h2 => absurd h2 h0, fun h2 => absurd h2 (wordA_ne hw)⟩, fun _ => hw, p2, p3, p4⟩
  · refine cnt_zero fun y hy hk => ?_
    have := own y hy n hn hk
    have := id_pos hi hy
    omega
  · rcases (hP n hn).2 with ⟨h1, _⟩ | ⟨_, x, hx, e, _, hk, _⟩
    · exact absurd h1 h0
    · obtain ⟨s, t, est⟩ := List.append_of_mem hx
      have hd := (hP x hx).1.2.2.2.2.2
      have one : x.kids.count n.id = 1 := by
        have h1 := List.nodup_iff_count.1 hd n.id
        have h2 := List.count_pos_iff.2 hk
        omega
      have other : ∀ y ∈ m.nodes, y ≠ x → n.id ∉ y.kids := fun y hy hne hk2 => hne (node_inj hi hy hx (by rw [← own y hy n hn hk2, e]))
      have hnd : m.nodes.Pairwise (· ≠ ·) := List.pairwise_iff_getElem.2 fun i j hi' hj' hij e2 => by
        have := ids_lt hi i j hi' hj' hij
        rw [e2] at this; omega
      rw [est] at hnd
      have hnd2 := List.pairwise_append.1 hnd
      rw [est, cnt_append, cnt_cons, one, cnt_zero (l := s), cnt_zero (l := t)]
      · intro y hy
        exact other y (by rw [est]; simp [hy]) (fun e2 => (List.pairwise_cons.1 hnd2.2.1).1 y hy e2.symm)
      · intro y hy
        exact other y (by rw [est]; simp [hy]) (fun e2 => hnd2.2.2 y hy x (by simp) e2)
theorem check_iff : CheckM m ↔ RightM m := ⟨right_of_check, check_of_right⟩
end
end Go.Proofs.YtpkapommekkbcaaDoor
end
