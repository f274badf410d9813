import Derived.Test.YtmafhaadcjgcbaaASame
import Derived.Test.YtmafhaadcjgcbaaADataA
import Derived.Test.YtmafhaadcjgcbaaAIn
import Derived.Test.YtmafhaadcjgcbaaACheck
import Derived.Test.YtmafhaadcjgcbaaMutK
set_option linter.unusedSimpArgs false
set_option linter.unusedVariables false
section
namespace Go.Proofs.Ytmafhaadcjgcbaa
open Go Go.RowKit

theorem eq_is {f : FuncId} {args : Array Value} {w : World} {p b : Bool} (h : p = b) (hc : Calls Try.prog f args w fun e w' => e = .returned (.bool p) ∧ ∃ n, w' = w.drewN n) : Calls Try.prog f args w fun e w' => e = .returned (.bool b) ∧ ∃ n, w' = w.drewN n := by
  rw [h] at hc; exact hc
open Classical in
theorem eqB_is {α : Type} {x y : α} {b : Bool} (h : eqB x y = b) : x = y ↔ b = true := by rw [← h]; exact (decide_eq_true_iff).symm
theorem node_ext {a b : ANode} (h1 : a.id = b.id) (h2 : a.concept = b.concept) (h3 : a.parent = b.parent) (h4 : a.role = b.role) (h5 : a.props = b.props) (h6 : a.kids = b.kids) (h7 : a.refs = b.refs) : a = b := by
  cases a; cases b; simp at h1 h2 h3 h4 h5 h6 h7; subst h1 h2 h3 h4 h5 h6 h7; rfl
theorem ba_beq {a b : ByteArray} {x : Bool} (h : (a.toList == b.toList) = x) : a = b ↔ x = true := by
  rw [← h, beq_iff_eq, ba_toList]

theorem model_ext {a b : AModel} (h1 : a.next = b.next) (h2 : a.nodes = b.nodes) : a = b := by
  cases a; cases b; simp at h1 h2; subst h1 h2; rfl
end Go.Proofs.Ytmafhaadcjgcbaa
end
section
/- a row of models, a row of acts, that are arguments -/
namespace Go.Proofs.Ytmafhaadcjgcbaa
open Go.ChangeShapes Go.WideShapes Go.ChangeAt Go.RowKit Go.Deep

/-- a model's two cells -/
def EModel (w : World) (F : Nat → Prop) (m : AModel) (cs : List Value) : Prop := ∃ x, cs = [.int .i64 m.next, x] ∧ IsRow 7 ENode w F x m.nodes
theorem EModel.stays : Stays EModel := fun _ _ _ _ _ _ hF hk ⟨x, e, h⟩ => ⟨x, e, h.keep ENode.stays hk hF⟩
/-- one thing that is done -/
structure AAct where
  kind : Int
  model : Int
def actCells (a : AAct) : List Value := [.int .i64 a.kind, .int .i64 a.model]
def EAct : World → (Nat → Prop) → AAct → List Value → Prop := EFlat actCells
theorem EAct.stays : Stays EAct := EFlat.stays _
instance : Inhabited AModel := ⟨⟨0, []⟩⟩
instance : Inhabited AAct := ⟨⟨0, 0⟩⟩
section
variable {H : Type} {enc : TypeId × Value → H} {w : World} {base : Nat} {spare : Nat → Bool} {held : Bool}
end
end Go.Proofs.Ytmafhaadcjgcbaa
end
section
namespace Go.Proofs.Ytmafhaadcjgcbaa
open Go Go.RowKit

def spread (m : AModel) (l : List Int) : List Int := l.flatMap fun k => k :: belowL m k
/-- the state of the walk by a stack: at the start, or behind it -/
def Stk (m : AModel) (x : ANode) (g : Nat) (out stack : List Int) : Prop :=
  (out = [] ∧ stack = [x.id] ∧ g = (belowL m x.id).length + 1) ∨ (out ++ spread m stack.reverse = belowL m x.id ∧ g = (spread m stack.reverse).length)
theorem Stk.done {m : AModel} {x : ANode} {g : Nat} {out : List Int} (h : Stk m x g out []) : out = belowL m x.id := by
  rcases h with ⟨_, h, _⟩ | ⟨h, _⟩
  · cases h
  · simpa [spread] using h
end Go.Proofs.Ytmafhaadcjgcbaa
end
section
/- pasts: what is done with them, and how they lie in memory -/
namespace Go.Proofs.Ytmafhaadcjgcbaa
open Go Go.RowKit

structure APast where
  ahead : List AModel
  here : AModel
  behind : List AModel
def APast.list (p : APast) : List AModel := p.ahead ++ p.here :: p.behind
section
variable {w w' : World} {F F' : Nat → Prop} {p : Nat} {P : APast}
end
theorem KeepO.keep {O F : Nat → Prop} {w w' : World} (h : KeepO O w w') (hF : ∀ b, F b → b < w.heap.size ∧ ¬ O b) : Keep F w w' := fun q hq => World.cell?_of_block (h.block q.block (hF _ hq).1 (hF _ hq).2)
end Go.Proofs.Ytmafhaadcjgcbaa
end
