import Derived.Test.YtpjkifbicfcajaaAIn
import Derived.Test.YtpjkifbicfcajaaAOwnI
import Derived.Test.YtpjkifbicfcajaaATree
import Derived.Test.YtpjkifbicfcajaaAAlone
import Derived.Laws.EntriesVeiled
import Derived.Test.YtpjkifbicfcajaaRegX
import Derived.Test.YtpjkifbicfcajaaACheck
set_option linter.unusedSimpArgs false
set_option linter.unusedVariables false
section
namespace Go.Proofs.Ytpjkifbicfcajaa
open Go Go.RowKit

def spread (m : AModel) (l : List Int) : List Int := l.flatMap fun k => k :: belowL m k
theorem spread_append (m : AModel) (a b : List Int) : spread m (a ++ b) = spread m a ++ spread m b := List.flatMap_append
theorem spread_cons (m : AModel) (k : Int) (b : List Int) : spread m (k :: b) = (k :: belowL m k) ++ spread m b := List.flatMap_cons
theorem spread_len (m : AModel) (l : List Int) : l.length ≤ (spread m l).length := by
  induction l with
  | nil => simp
  | cons k r ih => rw [spread_cons, List.length_append, List.length_cons, List.length_cons]; omega
/-- the state of the walk by a stack: at the start, or behind it -/
def Stk (m : AModel) (x : ANode) (g : Nat) (out stack : List Int) : Prop :=
  (out = [] ∧ stack = [x.id] ∧ g = (belowL m x.id).length + 1) ∨ (out ++ spread m stack.reverse = belowL m x.id ∧ g = (spread m stack.reverse).length)
theorem Stk.lens {m : AModel} {x : ANode} {g : Nat} {out stack : List Int} (h : Stk m x g out stack) : out.length + stack.length ≤ (belowL m x.id).length + 1 := by
  rcases h with ⟨rfl, rfl, _⟩ | ⟨h, _⟩
  · simp
  · have h1 := congrArg List.length h
    have h2 := spread_len m stack.reverse
    rw [List.length_append] at h1
    rw [List.length_reverse] at h2
    omega
/-- the top is a node; it is the first one, or comes next -/
theorem Stk.top {m : AModel} {x : ANode} {g : Nat} {out st : List Int} {t : Int} (hT : Tree m) (hx : x ∈ m.nodes) (h : Stk m x g out (st ++ [t])) :
    ∃ y ∈ m.nodes, y.id = t ∧ ∃ g', g' < g ∧ ((t = x.id ∧ Stk m x g' out (st ++ y.kids.reverse)) ∨ (t ≠ x.id ∧ Stk m x g' (out ++ [t]) (st ++ y.kids.reverse))) := by
  rcases h with ⟨rfl, h1, rfl⟩ | ⟨h1, rfl⟩
  · have hl := congrArg List.length h1
    simp at hl
    subst hl
    simp at h1
    subst h1
    refine ⟨x, hx, rfl, (belowL m x.id).length, by omega, .inl ⟨rfl, .inr ⟨?_, ?_⟩⟩⟩
    · simp only [List.nil_append, List.reverse_reverse]; exact (hT.below_eq hx).symm
    · simp only [List.nil_append, List.reverse_reverse]; rw [hT.below_eq hx]; rfl
  · rw [List.reverse_append, List.reverse_singleton, List.singleton_append, spread_cons] at h1
    have hm : t ∈ belowL m x.id := by rw [← h1]; simp
    obtain ⟨y, hy, rfl⟩ := hT.below_node x hx t hm
    have hne : y.id ≠ x.id := fun e => hT.not_below hx (by rw [e] at hm; exact hm)
    refine ⟨y, hy, rfl, (spread m (st ++ y.kids.reverse).reverse).length, ?_, .inr ⟨hne, .inr ⟨?_, rfl⟩⟩⟩
    · rw [List.reverse_append, List.reverse_append, List.reverse_reverse, List.reverse_singleton, List.singleton_append, spread_append, spread_cons]
      have : spread m y.kids = belowL m y.id := (hT.below_eq hy).symm
      rw [this]; simp
    · rw [List.reverse_append, List.reverse_reverse, spread_append]
      have : spread m y.kids = belowL m y.id := (hT.below_eq hy).symm
      rw [this, ← h1]; simp
theorem Stk.done {m : AModel} {x : ANode} {g : Nat} {out : List Int} (h : Stk m x g out []) : out = belowL m x.id := by
  rcases h with ⟨_, h, _⟩ | ⟨h, _⟩
  · cases h
  · simpa [spread] using h
def Apart (a b : Value) : Prop := a.ownBlock = none ∨ a.ownBlock ≠ b.ownBlock

end Go.Proofs.Ytpjkifbicfcajaa
end
section
namespace Go.Proofs.Ytpjkifbicfcajaa
open Go Go.RowKit

theorem prefix_len {m : AModel} (x : ANode) (k : Nat) : ((x.kids.take k).flatMap fun c => c :: belowL m c).length ≤ (x.kids.flatMap fun c => c :: belowL m c).length := by
  conv => rhs; rw [← List.take_append_drop k x.kids]
  rw [List.flatMap_append, List.length_append]; omega
theorem prefix_succ {m : AModel} {x : ANode} {k : Nat} (hk : k < x.kids.length) : ((x.kids.take (k + 1)).flatMap fun c => c :: belowL m c) = ((x.kids.take k).flatMap fun c => c :: belowL m c) ++ (x.kids[k] :: belowL m x.kids[k]) := by
  rw [List.take_succ_eq_append_getElem hk, List.flatMap_append]; simp
end Go.Proofs.Ytpjkifbicfcajaa
end
section
namespace Go.Proofs.Ytpjkifbicfcajaa
open Go Go.RowKit

end Go.Proofs.Ytpjkifbicfcajaa
end
section
namespace Go.Proofs.Ytpjkifbicfcajaa
open Go Go.RowKit

def ordTo (m : AModel) (i : Nat) : List Int := (((m.nodes.take i).filter (fun n => n.parent == 0)).map (·.id)).flatMap fun r => r :: belowL m r
theorem ordTo_succ {m : AModel} {i : Nat} (h : i < m.nodes.length) : ordTo m (i + 1) = ordTo m i ++ (if m.nodes[i].parent = 0 then m.nodes[i].id :: belowL m m.nodes[i].id else []) := by
  unfold ordTo
  rw [List.take_succ_eq_append_getElem h, List.filter_append, List.map_append, List.flatMap_append]
  by_cases hp : m.nodes[i].parent = 0 <;> simp [List.filter_cons, hp]
theorem ordTo_all {m : AModel} {i : Nat} (h : ¬ i < m.nodes.length) : ordTo m i = orderL m := by
  unfold ordTo orderL rootsL; rw [List.take_of_length_le (by omega)]
theorem ordTo_len (m : AModel) (i : Nat) : (ordTo m i).length ≤ (orderL m).length := by
  have : orderL m = ordTo m i ++ ((((m.nodes.drop i).filter (fun n => n.parent == 0)).map (·.id)).flatMap fun r => r :: belowL m r) := by
    unfold orderL rootsL ordTo
    rw [← List.flatMap_append, ← List.map_append, ← List.filter_append, List.take_append_drop]
  rw [this, List.length_append]; omega
open Classical in
noncomputable def ordL (m : AModel) : List Int := if CheckM m then orderL m else []
open Classical in
theorem ordL_no {m : AModel} (h : ¬ CheckM m) : ordL m = [] := if_neg h
open Classical in
theorem ordL_yes {m : AModel} (h : CheckM m) : ordL m = orderL m := if_pos h
open Classical in
theorem checkI_yes {m : AModel} (h : CheckM m) : checkI m = 0 := by unfold checkI; rw [decide_eq_true h]; rfl
theorem int_is {f : FuncId} {args : Array Value} {w : World} {p b : Int} {R : World → Prop} (h : p = b) (hc : Calls Try.prog f args w fun e w' => e = .returned (.int .i64 p) ∧ R w') : Calls Try.prog f args w fun e w' => e = .returned (.int .i64 b) ∧ R w' := by
  rw [h] at hc; exact hc
theorem rightM_is {m : AModel} : (CheckM m → rightM m = true) ∧ (¬ CheckM m → rightM m = false) := ⟨fun h => rightM_yes (check_iff.1 h), fun h => rightM_no (fun e => h (check_iff.2 e))⟩
theorem CheckM.kids4 {m : AModel} (h : CheckM m) : ∀ x ∈ m.nodes, x.kids.length ≤ 4096 := fun x hx => by
  have := (h.2.1 x hx).2.2.2.1; have := h.1.1.2.2; omega

end Go.Proofs.Ytpjkifbicfcajaa
end
