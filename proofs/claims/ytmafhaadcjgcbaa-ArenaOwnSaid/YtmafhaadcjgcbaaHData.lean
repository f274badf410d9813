import Derived.Test.YtmafhaadcjgcbaaADataA
set_option linter.unusedSimpArgs false
set_option linter.unusedVariables false
/- a row of models, a row of acts, that are arguments -/
namespace Go.Proofs.Ytmafhaadcjgcbaa
open Go.ChangeShapes Go.WideShapes Go.ChangeAt Go.RowKit Go.Deep

/-- a model's two cells -/
def EModel (w : World) (F : Nat → Prop) (m : AModel) (cs : List Value) : Prop := ∃ x, cs = [.int .i64 m.next, x] ∧ IsRow 7 ENode w F x m.nodes
theorem EModel.stays : Stays EModel := fun _ _ _ _ _ _ hF hk ⟨x, e, h⟩ => ⟨x, e, h.keep ENode.stays hk hF⟩
/-- one thing that is done -/
structure AAct where
  kind : Int
  model : Int
def actCells (a : AAct) : List Value := [.int .i64 a.kind, .int .i64 a.model]
def EAct : World → (Nat → Prop) → AAct → List Value → Prop := EFlat actCells
theorem EAct.stays : Stays EAct := EFlat.stays _
instance : Inhabited AModel := ⟨⟨0, []⟩⟩
instance : Inhabited AAct := ⟨⟨0, 0⟩⟩
section
variable {H : Type} {enc : TypeId × Value → H} {w : World} {base : Nat} {spare : Nat → Bool} {held : Bool}
end
end Go.Proofs.Ytmafhaadcjgcbaa
