import Derived.Test.YtpjkifbicfcajaaADataA
set_option linter.unusedSimpArgs false
set_option linter.unusedVariables false
/- a row of models, a row of acts, that are arguments -/
namespace Go.Proofs.Ytpjkifbicfcajaa
open Go.ChangeShapes Go.WideShapes Go.ChangeAt Go.RowKit Go.Deep

/-- a model's two cells -/
def EModel (w : World) (F : Nat → Prop) (m : AModel) (cs : List Value) : Prop := ∃ x, cs = [.int .i64 m.next, x] ∧ IsRow 7 ENode w F x m.nodes
theorem EModel.stays : Stays EModel := fun _ _ _ _ _ _ hF hk ⟨x, e, h⟩ => ⟨x, e, h.keep ENode.stays hk hF⟩
/-- all of a model's texts, lists and numbers are Go's -/
def ModAll (m : AModel) : Prop := (∀ y ∈ m.nodes, NodeAll y) ∧ InR m.next ∧ m.nodes.length ≤ 1172812402926
/-- one thing that is done -/
structure AAct where
  kind : Int
  model : Int
def actCells (a : AAct) : List Value := [.int .i64 a.kind, .int .i64 a.model]
theorem actCells_len : ∀ a : AAct, (actCells a).length = 2 := fun _ => rfl
def EAct : World → (Nat → Prop) → AAct → List Value → Prop := EFlat actCells
theorem EAct.stays : Stays EAct := EFlat.stays _
instance : Inhabited AModel := ⟨⟨0, []⟩⟩
instance : Inhabited AAct := ⟨⟨0, 0⟩⟩
section
variable {H : Type} {enc : TypeId × Value → H} {w : World} {base : Nat} {spare : Nat → Bool} {held : Bool}
theorem modelE_trod (fuel : Nat) (cs : List Value) (x : DataW H × List MemPlace) (hl : cs.length = 2) (h : DataW.trod enc Try.prog w base spare held fuel 27 cs = some x) (hw : WtOK Try.prog 27 x.1) :
    ∃ m : AModel, EModel w (· < w.heap.size) m cs ∧ ModAll m := by
  match cs, hl with
  | [c0, c1], _ =>
    obtain ⟨_, _, k0, _⟩ := field_of_trodW Try.underlying27 h hw 0 _ rfl (by kernel_rfl) (by simp)
    obtain ⟨_, _, k1, w1⟩ := field_of_trodW Try.underlying27 h hw 1 _ rfl (by kernel_rfl) (by simp)
    obtain ⟨n0, e0, _, h0⟩ := DataW.trod_int Try.underlying3 k0
    obtain ⟨l, hl, hp, b1⟩ := rowOf_trodW Try.underlying25 (by kernel_rfl : Try.prog.cellsOf 79 = 7) (by omega) node_trod k1 w1
    rw [show Try.prog.bytesOf 79 = 120 from by kernel_rfl] at b1
    unfold reachBytes at b1
    simp at e0 hl
    subst e0
    exact ⟨⟨n0, l⟩, ⟨c1, rfl, hl⟩, hp, wf_in h0, by show l.length ≤ _; omega⟩
theorem act_trod (fuel : Nat) (cs : List Value) (x : DataW H × List MemPlace) (hl : cs.length = 2) (h : DataW.trod enc Try.prog w base spare held fuel 40 cs = some x) (hw : WtOK Try.prog 40 x.1) :
    ∃ a : AAct, EAct w (· < w.heap.size) a cs ∧ InR a.kind ∧ InR a.model := by
  match cs, hl with
  | [c0, c1], _ =>
    obtain ⟨_, _, k0, _⟩ := field_of_trodW Try.underlying40 h hw 0 _ rfl (by kernel_rfl) (by simp)
    obtain ⟨_, _, k1, _⟩ := field_of_trodW Try.underlying40 h hw 1 _ rfl (by kernel_rfl) (by simp)
    obtain ⟨n0, e0, _, h0⟩ := DataW.trod_int Try.underlying3 k0
    obtain ⟨n1, e1, _, h1⟩ := DataW.trod_int Try.underlying3 k1
    simp at e0 e1
    subst e0 e1
    exact ⟨⟨n0, n1⟩, rfl, wf_in h0, wf_in h1⟩
set_option maxRecDepth 100000 in
theorem models_arg {r : Reach} {b0 : Nat} {v : Value} {d : DataW H} {ps : List MemPlace} (hval : Value.okWide Try.prog w r b0 22 v) (h : DataW.Trod enc Try.prog w base spare held 22 v d ps) (hw : WtOK Try.prog 22 d) :
    ∃ l : List AModel, IsRow 2 EModel w (· < w.heap.size) v l ∧ ∀ y ∈ l, ModAll y := by
  obtain ⟨a, len, cap, rfl⟩ := okWide_slice Try.underlying22 hval
  obtain ⟨fuel, hf⟩ := h
  obtain ⟨l, h1, h2, _⟩ := rowOf_trodW Try.underlying22 (by kernel_rfl : Try.prog.cellsOf 27 = 2) (by omega) modelE_trod (by simpa [Value.cells] using hf) hw
  exact ⟨l, h1, h2⟩
set_option maxRecDepth 100000 in
theorem acts_arg {r : Reach} {b0 : Nat} {v : Value} {d : DataW H} {ps : List MemPlace} (hval : Value.okWide Try.prog w r b0 23 v) (h : DataW.Trod enc Try.prog w base spare held 23 v d ps) (hw : WtOK Try.prog 23 d) :
    ∃ l : List AAct, IsRow 2 EAct w (· < w.heap.size) v l ∧ ∀ y ∈ l, InR y.kind ∧ InR y.model := by
  obtain ⟨a, len, cap, rfl⟩ := okWide_slice Try.underlying23 hval
  obtain ⟨fuel, hf⟩ := h
  obtain ⟨l, h1, h2, _⟩ := rowOf_trodW Try.underlying23 (by kernel_rfl : Try.prog.cellsOf 40 = 2) (by omega) act_trod (by simpa [Value.cells] using hf) hw
  exact ⟨l, h1, h2⟩
end
end Go.Proofs.Ytpjkifbicfcajaa
