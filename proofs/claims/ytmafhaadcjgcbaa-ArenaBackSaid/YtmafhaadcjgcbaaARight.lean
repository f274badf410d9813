import Derived.Test.YtmafhaadcjgcbaaAPlace
import Derived.Test.YtmafhaadcjgcbaaAIndex
import Derived.Test.YtmafhaadcjgcbaaAWordRef
import Derived.StillTailTactics
import Derived.Laws.MakeOwn
import Derived.Lib.QuietBelow
import Derived.Deep.DeepCutAuto
set_option linter.unusedSimpArgs false
set_option linter.unusedVariables false
section
namespace Go.Proofs.Ytmafhaadcjgcbaa
open Go Go.RowKit

end Go.Proofs.Ytmafhaadcjgcbaa
end
section
namespace Go.Proofs.Ytmafhaadcjgcbaa
open Go Go.RowKit

/-- the seven cells of a node, its lists wherever they lie -/
def NodeBlk (w : World) (g : Nat) (t : TypeId) (F : Nat → Prop) (n : ANode) : Prop :=
  ∃ Sp cp Sk ck Sr cr, Blk w g t #[.int .i64 n.id, .string n.concept, .int .i64 n.parent, .string n.role, .slice Sp n.props.length cp, .slice Sk n.kids.length ck, .slice Sr n.refs.length cr]
theorem NodeBlk.below {w w' : World} {g B : Nat} {t : TypeId} {F : Nat → Prop} {n : ANode} (h : NodeBlk w g t F n) (hb : Below B w w') (hg : g < B) : NodeBlk w' g t F n := by
  obtain ⟨a, b, c, d, e, f, h⟩ := h
  exact ⟨a, b, c, d, e, f, h.below hb hg⟩
theorem Blk.store7 {w : World} {g : Nat} {t : TypeId} {a0 a1 a2 a3 a4 a5 a6 b0 b1 b2 b3 b4 b5 b6 : Value} (h : Blk w g t #[a0, a1, a2, a3, a4, a5, a6]) :
    Blk (((((((w.setCell ⟨g, 0, none⟩ b0).setCell ⟨g, 1, none⟩ b1).setCell ⟨g, 2, none⟩ b2).setCell ⟨g, 3, none⟩ b3).setCell ⟨g, 4, none⟩ b4).setCell ⟨g, 5, none⟩ b5).setCell ⟨g, 6, none⟩ b6) g t #[b0, b1, b2, b3, b4, b5, b6] := by
  simpa using ((((((h.set_ 0 b0).set_ 1 b1).set_ 2 b2).set_ 3 b3).set_ 4 b4).set_ 5 b5).set_ 6 b6
theorem Blk.far7 {w : World} {g g' : Nat} {t : TypeId} {cs : Array Value} {b0 b1 b2 b3 b4 b5 b6 : Value} (h : Blk w g t cs) (hne : g ≠ g') :
    Blk (((((((w.setCell ⟨g', 0, none⟩ b0).setCell ⟨g', 1, none⟩ b1).setCell ⟨g', 2, none⟩ b2).setCell ⟨g', 3, none⟩ b3).setCell ⟨g', 4, none⟩ b4).setCell ⟨g', 5, none⟩ b5).setCell ⟨g', 6, none⟩ b6) g t cs :=
  ((((((h.far hne b0).far hne b1).far hne b2).far hne b3).far hne b4).far hne b5).far hne b6
theorem below_set7 {B : Nat} {a w : World} {g : Nat} {b0 b1 b2 b3 b4 b5 b6 : Value} (h : Below B a w) (hg : B ≤ g) :
    Below B a (((((((w.setCell ⟨g, 0, none⟩ b0).setCell ⟨g, 1, none⟩ b1).setCell ⟨g, 2, none⟩ b2).setCell ⟨g, 3, none⟩ b3).setCell ⟨g, 4, none⟩ b4).setCell ⟨g, 5, none⟩ b5).setCell ⟨g, 6, none⟩ b6) :=
  ((((((h.setCell (p := ⟨g, 0, none⟩) hg b0).setCell (p := ⟨g, 1, none⟩) hg b1).setCell (p := ⟨g, 2, none⟩) hg b2).setCell (p := ⟨g, 3, none⟩) hg b3).setCell (p := ⟨g, 4, none⟩) hg b4).setCell (p := ⟨g, 5, none⟩) hg b5).setCell (p := ⟨g, 6, none⟩) hg b6
end Go.Proofs.Ytmafhaadcjgcbaa
end
section
namespace Go.Proofs.Ytmafhaadcjgcbaa
open Go Go.RowKit

def PropsTo (l : List AProp) (k : Nat) : Prop := ∀ j, j < k → PropAt l j
theorem PropsTo.next {l : List AProp} {k : Nat} (h : PropsTo l k) (hk : PropAt l k) : PropsTo l (k + 1) := fun j hj => by
  rcases Nat.lt_succ_iff_lt_or_eq.1 hj with h' | h'
  · exact h j h'
  · subst h'; exact hk
theorem PropsTo.all {l : List AProp} {k : Nat} (h : PropsTo l k) (hk : ¬ k < l.length) : PropsOK l := fun i hi => h i (by omega) hi
def RefsTo (nx : Int) (l : List ARef) (k : Nat) : Prop := ∀ j, j < k → RefAt nx l j
theorem RefsTo.next {nx : Int} {l : List ARef} {k : Nat} (h : RefsTo nx l k) (hk : RefAt nx l k) : RefsTo nx l (k + 1) := fun j hj => by
  rcases Nat.lt_succ_iff_lt_or_eq.1 hj with h' | h'
  · exact h j h'
  · subst h'; exact hk
theorem RefsTo.all {nx : Int} {l : List ARef} {k : Nat} (h : RefsTo nx l k) (hk : ¬ k < l.length) : RefsOK nx l := fun i hi => h i (by omega) hi

/-- which nodes have been met -/
def MetB (w : World) (g : Nat) (l : List Bool) : Prop := Blk w g 4 (l.map Value.bool).toArray
theorem MetB.cell {w : World} {g : Nat} {l : List Bool} (h : MetB w g l) {i : Nat} (hi : i < l.length) : w.cell? ⟨g, i, none⟩ = some (.bool l[i]) := by
  rw [Blk.cell h i]; simp [hi]
theorem MetB.set_ {w : World} {g : Nat} {l : List Bool} (h : MetB w g l) (i : Nat) (b : Bool) : MetB (w.setCell ⟨g, i, none⟩ (.bool b)) g (l.set i b) := by
  have := Blk.set_ h i (.bool b)
  unfold MetB
  rw [List.map_set]
  simpa using this
theorem MetB.made (w : World) (k : Nat) : MetB (w.alloc (.cells (madeCells #[.bool false] k) 4)) w.heap.size (List.replicate k false) := by
  have e : madeCells #[.bool false] k = ((List.replicate k false).map Value.bool).toArray := by
    unfold madeCells
    apply Array.ext
    · simp
    · intro i h1 h2
      simp [Nat.mod_one]
  unfold MetB
  rw [← e]; exact Blk.new _ _ _
/-- what is known of the kids ahead of k -/
structure KidsTo (m : AModel) (n : ANode) (k : Nat) (ml : List Bool) : Prop where
  len : ml.length = m.nodes.length
  met : ∀ i (h : i < ml.length) (h' : i < m.nodes.length), ml[i] = true ↔ m.nodes[i].id ∈ n.kids.take k
  at_ : ∀ x ∈ n.kids.take k, KidAt m n.id x
  nodup : (n.kids.take k).Nodup
theorem KidsTo.start (m : AModel) (n : ANode) : KidsTo m n 0 (List.replicate m.nodes.length false) := ⟨by simp, by simp, by simp, by simp⟩
theorem KidsTo.next {m : AModel} {n : ANode} {k i : Nat} {ml : List Bool} (h : KidsTo m n k ml) (hs : Srt m.nodes) (hk : k < n.kids.length) (hi : i < m.nodes.length) (e : m.nodes[i].id = n.kids[k]) (hp : m.nodes[i].parent = n.id) (hm : ml[i]'(by rw [h.len]; exact hi) = false) : KidsTo m n (k + 1) (ml.set i true) := by
  have hl := h.len
  have et : n.kids.take (k + 1) = n.kids.take k ++ [n.kids[k]] := List.take_succ_eq_append_getElem hk
  refine ⟨by simpa using hl, fun j hj hj' => ?_, fun x hx => ?_, ?_⟩
  · rw [et, List.mem_append, List.mem_singleton, ← e]
    by_cases hij : i = j
    · subst hij; simp
    · rw [List.getElem_set_ne hij, h.met j (by omega) hj']
      constructor
      · exact .inl
      · rintro (h1 | h1)
        · exact h1
        · exact absurd (hs.inj hj' hi h1).symm hij
  · rw [et] at hx
    rcases List.mem_append.1 hx with hx | hx
    · exact h.at_ x hx
    · simp at hx; subst hx
      exact ⟨m.nodes[i], List.getElem_mem hi, e, hp⟩
  · rw [et, List.nodup_append]
    refine ⟨h.nodup, by simp, fun a ha b hb => ?_⟩
    simp at hb; subst hb
    intro e2
    subst e2
    have := (h.met i (by omega) hi).2 (by rw [e]; exact ha)
    rw [hm] at this; cases this
end Go.Proofs.Ytmafhaadcjgcbaa
end
section
namespace Go.Proofs.Ytmafhaadcjgcbaa
open Go Go.RowKit

/-- the texts in a node are no longer than texts are -/
def StrOK (x : ANode) : Prop := x.concept.size ≤ 9223372036854775807 ∧ x.role.size ≤ 9223372036854775807 ∧ (∀ p ∈ x.props, p.name.size ≤ 9223372036854775807 ∧ p.value.size ≤ 9223372036854775807) ∧ ∀ r ∈ x.refs, r.role.size ≤ 9223372036854775807
def IdsTo (m : AModel) (k : Nat) : Prop := ∀ j, j < k → IdAt m j
theorem IdsTo.next {m : AModel} {k : Nat} (h : IdsTo m k) (hk : IdAt m k) : IdsTo m (k + 1) := fun j hj => by
  rcases Nat.lt_succ_iff_lt_or_eq.1 hj with h' | h'
  · exact h j h'
  · subst h'; exact hk
def NodesTo (m : AModel) (k : Nat) : Prop := ∀ j (h : j < m.nodes.length), j < k → Plain m m.nodes[j] ∧ Bel m 64 m.nodes[j]
theorem NodesTo.next {m : AModel} {k : Nat} (h : NodesTo m k) (hk : ∀ h : k < m.nodes.length, Plain m m.nodes[k] ∧ Bel m 64 m.nodes[k]) : NodesTo m (k + 1) := fun j hj hjk => by
  rcases Nat.lt_succ_iff_lt_or_eq.1 hjk with h' | h'
  · exact h j hj h'
  · subst h'; exact hk hj
theorem res_is {f : FuncId} {args : Array Value} {w : World} {p b : Bool} {R : World → Prop} (h : p = b) (hc : Calls Try.prog f args w fun e w' => e = .returned (.bool p) ∧ R w') : Calls Try.prog f args w fun e w' => e = .returned (.bool b) ∧ R w' := by
  rw [h] at hc; exact hc

end Go.Proofs.Ytmafhaadcjgcbaa
end
