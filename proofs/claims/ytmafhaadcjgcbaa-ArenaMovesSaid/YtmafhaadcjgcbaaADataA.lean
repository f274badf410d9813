import Derived.Test.YtmafhaadcjgcbaaDataW
import Derived.Test.YtmafhaadcjgcbaaALentI
set_option linter.unusedSimpArgs false
set_option linter.unusedVariables false
namespace Go.Proofs.Ytmafhaadcjgcbaa
open Go.ChangeShapes Go.WideShapes Go.ChangeAt Go.RowKit Go.Deep

instance : Inhabited AProp := ⟨⟨ByteArray.empty, ByteArray.empty⟩⟩
instance : Inhabited ARef := ⟨⟨ByteArray.empty, 0⟩⟩
instance : Inhabited ANode := ⟨⟨0, ByteArray.empty, 0, ByteArray.empty, [], [], []⟩⟩
section
variable {H : Type} {enc : TypeId × Value → H} {w : World} {base : Nat} {spare : Nat → Bool} {held : Bool}
theorem prop_trod (fuel : Nat) (cs : List Value) (x : DataW H × List MemPlace) (hl : cs.length = 2) (h : DataW.trod enc Try.prog w base spare held fuel 85 cs = some x) (hw : WtOK Try.prog 85 x.1) :
    ∃ y : AProp, EProp w (· < w.heap.size) y cs ∧ (y.name.size ≤ 9223372036854775807 ∧ y.value.size ≤ 9223372036854775807) := by
  match cs, hl with
  | [c0, c1], _ =>
    obtain ⟨_, _, k0, _⟩ := field_of_trodW Try.underlying85 h hw 0 _ rfl (by kernel_rfl) (by simp)
    obtain ⟨_, _, k1, _⟩ := field_of_trodW Try.underlying85 h hw 1 _ rfl (by kernel_rfl) (by simp)
    obtain ⟨s, e0, _, hs⟩ := DataW.trod_string Try.underlying9 k0
    obtain ⟨s', e1, _, hs'⟩ := DataW.trod_string Try.underlying9 k1
    simp at e0 e1
    subst e0 e1
    exact ⟨⟨s, s'⟩, rfl, by unfold maxLen at hs; exact hs, by unfold maxLen at hs'; exact hs'⟩
theorem ref_trod (fuel : Nat) (cs : List Value) (x : DataW H × List MemPlace) (hl : cs.length = 2) (h : DataW.trod enc Try.prog w base spare held fuel 82 cs = some x) (hw : WtOK Try.prog 82 x.1) :
    ∃ y : ARef, ERef w (· < w.heap.size) y cs ∧ (y.role.size ≤ 9223372036854775807 ∧ InR y.target) := by
  match cs, hl with
  | [c0, c1], _ =>
    obtain ⟨_, _, k0, _⟩ := field_of_trodW Try.underlying82 h hw 0 _ rfl (by kernel_rfl) (by simp)
    obtain ⟨_, _, k1, _⟩ := field_of_trodW Try.underlying82 h hw 1 _ rfl (by kernel_rfl) (by simp)
    obtain ⟨s, e0, _, hs⟩ := DataW.trod_string Try.underlying9 k0
    obtain ⟨n, e1, _, hn⟩ := DataW.trod_int Try.underlying3 k1
    simp at e0 e1
    subst e0 e1
    exact ⟨⟨s, n⟩, rfl, by unfold maxLen at hs; exact hs, wf_in hn⟩
theorem int_trod (fuel : Nat) (cs : List Value) (x : DataW H × List MemPlace) (_hl : cs.length = 1) (h : DataW.trod enc Try.prog w base spare held fuel 3 cs = some x) (_hw : WtOK Try.prog 3 x.1) :
    ∃ y : Int, EInt w (· < w.heap.size) y cs ∧ InR y := by
  obtain ⟨n, e1, _, hn⟩ := DataW.trod_int Try.underlying3 h
  exact ⟨n, e1, wf_in hn⟩
/-- all of a node's texts, lists and numbers are Go's -/
def NodeAll (x : ANode) : Prop := NodeOK x ∧ LensOK x ∧ InR x.id ∧ ∀ r ∈ x.refs, InR r.target
theorem node_trod (fuel : Nat) (cs : List Value) (x : DataW H × List MemPlace) (hl : cs.length = 7) (h : DataW.trod enc Try.prog w base spare held fuel 38 cs = some x) (hw : WtOK Try.prog 38 x.1) :
    ∃ y : ANode, ENode w (· < w.heap.size) y cs ∧ NodeAll y := by
  match cs, hl with
  | [c0, c1, c2, c3, c4, c5, c6], _ =>
    obtain ⟨_, _, k0, _⟩ := field_of_trodW Try.underlying38 h hw 0 _ rfl (by kernel_rfl) (by simp)
    obtain ⟨_, _, k1, _⟩ := field_of_trodW Try.underlying38 h hw 1 _ rfl (by kernel_rfl) (by simp)
    obtain ⟨_, _, k2, _⟩ := field_of_trodW Try.underlying38 h hw 2 _ rfl (by kernel_rfl) (by simp)
    obtain ⟨_, _, k3, _⟩ := field_of_trodW Try.underlying38 h hw 3 _ rfl (by kernel_rfl) (by simp)
    obtain ⟨_, _, k4, w4⟩ := field_of_trodW Try.underlying38 h hw 4 _ rfl (by kernel_rfl) (by simp)
    obtain ⟨_, _, k5, w5⟩ := field_of_trodW Try.underlying38 h hw 5 _ rfl (by kernel_rfl) (by simp)
    obtain ⟨_, _, k6, w6⟩ := field_of_trodW Try.underlying38 h hw 6 _ rfl (by kernel_rfl) (by simp)
    obtain ⟨n0, e0, _, h0⟩ := DataW.trod_int Try.underlying3 k0
    obtain ⟨s1, e1, _, h1⟩ := DataW.trod_string Try.underlying9 k1
    obtain ⟨n2, e2, _, h2⟩ := DataW.trod_int Try.underlying3 k2
    obtain ⟨s3, e3, _, h3⟩ := DataW.trod_string Try.underlying9 k3
    obtain ⟨l4, hl4, hp4, b4⟩ := rowOf_trodW Try.underlying34 (by kernel_rfl : Try.prog.cellsOf 85 = 2) (by omega) prop_trod k4 w4
    obtain ⟨l5, hl5, hp5, b5⟩ := rowOf_trodW Try.underlying35 (by kernel_rfl : Try.prog.cellsOf 3 = 1) (by omega) int_trod k5 w5
    obtain ⟨l6, hl6, hp6, b6⟩ := rowOf_trodW Try.underlying36 (by kernel_rfl : Try.prog.cellsOf 82 = 2) (by omega) ref_trod k6 w6
    rw [show Try.prog.bytesOf 85 = 32 from by kernel_rfl] at b4
    rw [show Try.prog.bytesOf 3 = 8 from by kernel_rfl] at b5
    rw [show Try.prog.bytesOf 82 = 24 from by kernel_rfl] at b6
    simp at e0 e1 e2 e3 hl4 hl5 hl6
    subst e0 e1 e2 e3
    unfold maxLen at h1 h3
    unfold reachBytes at b4 b5 b6
    exact ⟨⟨n0, s1, n2, s3, l4, l5, l6⟩, ⟨_, _, _, rfl, hl4, hl5, hl6⟩, ⟨⟨h1, h3, hp4, fun r hr => (hp6 r hr).1⟩, wf_in h2, hp5⟩, ⟨b4, b5, b6⟩, wf_in h0, fun r hr => (hp6 r hr).2⟩
/-- a model that is read as data -/
theorem model_trod {v : Value} {x : DataW H × List MemPlace} {fuel : Nat} {cs : List Value} (hv : cs.length = 2) (h : DataW.trod enc Try.prog w base spare held fuel 24 cs = some x) (hw : WtOK Try.prog 24 x.1) (he : v = .agg cs.toArray) :
    ∃ m : AModel, IsModel w (· < w.heap.size) v m ∧ (∀ y ∈ m.nodes, NodeAll y) ∧ InR m.next := by
  match cs, hv with
  | [c0, c1], _ =>
    obtain ⟨_, _, k0, _⟩ := field_of_trodW Try.underlying24 h hw 0 _ rfl (by kernel_rfl) (by simp)
    obtain ⟨_, _, k1, w1⟩ := field_of_trodW Try.underlying24 h hw 1 _ rfl (by kernel_rfl) (by simp)
    obtain ⟨n0, e0, _, h0⟩ := DataW.trod_int Try.underlying3 k0
    obtain ⟨l, hl, hp, _⟩ := rowOf_trodW Try.underlying22 (by kernel_rfl : Try.prog.cellsOf 38 = 7) (by omega) node_trod k1 w1
    simp at e0 hl
    subst e0
    exact ⟨⟨n0, l⟩, ⟨c1, by rw [he], hl⟩, hp, wf_in h0⟩
theorem arr_two {α : Type} {xs : Array α} (h : xs.size = 2) : ∃ a b, xs = #[a, b] := by
  obtain ⟨l⟩ := xs
  match l, h with
  | [a, b], _ => exact ⟨a, b, rfl⟩
set_option maxRecDepth 100000 in
/-- a model that is an argument -/
theorem model_arg {r : Reach} {b0 : Nat} {v : Value} {d : DataW H} {ps : List MemPlace} (hval : Value.okWide Try.prog w r b0 24 v) (h : DataW.Trod enc Try.prog w base spare held 24 v d ps) (hw : WtOK Try.prog 24 d) :
    ∃ m : AModel, IsModel w (· < w.heap.size) v m ∧ (∀ y ∈ m.nodes, NodeAll y) ∧ InR m.next := by
  obtain ⟨cs, rfl, hsz⟩ := okWide_struct Try.underlying24 hval
  have hsz2 := hsz.trans (by kernel_rfl : Try.prog.cellsOf 24 = 2)
  obtain ⟨c0, c1, rfl⟩ := arr_two hsz2
  obtain ⟨fuel, hf⟩ := h
  exact model_trod (cs := [c0, c1]) rfl (by simpa [Value.cells] using hf) hw rfl
end
end Go.Proofs.Ytmafhaadcjgcbaa
