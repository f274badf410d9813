/- terms and bounds that are read as data -/
import Derived.Test.YtgcbnndbeoekgaaDoorDataW
import Derived.Test.YtgcbnndbeoekgaaDoorMapI
set_option linter.unusedSimpArgs false
set_option linter.unusedVariables false
namespace Go.Proofs.YtgcbnndbeoekgaaDoor
open Go.ChangeShapes Go.WideShapes Go.ChangeAt Go.RowKit Go.Deep

instance : Inhabited TN := ⟨⟨0, ByteArray.empty, []⟩⟩
instance : Inhabited ABind := ⟨⟨0, []⟩⟩
/-- all of a node's texts, lists and numbers are Go's -/
def TNAll (t : TN) : Prop := t.name.size ≤ 9223372036854775807 ∧ InI t.var ∧ t.args.length ≤ 17592186044416
def TermAll (l : List TN) : Prop := (∀ t ∈ l, TNAll t) ∧ l.length ≤ 2932031007402
section
variable {H : Type} {enc : TypeId × Value → H} {w : World} {base : Nat} {spare : Nat → Bool} {held : Bool}
theorem int_trod15 (fuel : Nat) (cs : List Value) (x : DataW H × List MemPlace) (_hl : cs.length = 1) (h : DataW.trod enc Tryd.prog w base spare held fuel 3 cs = some x) (_hw : WtOK Tryd.prog 3 x.1) :
    ∃ y : Int, EInt w (· < w.heap.size) y cs ∧ InI y := by
  obtain ⟨n, e1, _, hn⟩ := DataW.trod_int Tryd.underlying3 h
  exact ⟨n, e1, wf_in hn⟩
theorem tn_trod (fuel : Nat) (cs : List Value) (x : DataW H × List MemPlace) (hl : cs.length = 3) (h : DataW.trod enc Tryd.prog w base spare held fuel 58 cs = some x) (hw : WtOK Tryd.prog 58 x.1) :
    ∃ y : TN, ETN w (· < w.heap.size) y cs ∧ TNAll y := by
  match cs, hl with
  | [c0, c1, c2], _ =>
    obtain ⟨_, _, k0, _⟩ := field_of_trodW Tryd.underlying58 h hw 0 _ rfl (by kernel_rfl) (by simp)
    obtain ⟨_, _, k1, _⟩ := field_of_trodW Tryd.underlying58 h hw 1 _ rfl (by kernel_rfl) (by simp)
    obtain ⟨_, _, k2, w2⟩ := field_of_trodW Tryd.underlying58 h hw 2 _ rfl (by kernel_rfl) (by simp)
    obtain ⟨n0, e0, _, h0⟩ := DataW.trod_int Tryd.underlying3 k0
    obtain ⟨s1, e1, _, h1⟩ := DataW.trod_string Tryd.underlying9 k1
    obtain ⟨l2, hl2, hp2, b2⟩ := rowOf_trodW Tryd.underlying51 (by kernel_rfl : Tryd.prog.cellsOf 3 = 1) (by omega) int_trod15 k2 w2
    rw [show Tryd.prog.bytesOf 3 = 8 from by kernel_rfl] at b2
    simp at e0 e1 hl2
    subst e0 e1
    unfold maxLen at h1
    unfold reachBytes at b2
    exact ⟨⟨n0, s1, l2⟩, ⟨_, rfl, hl2⟩, h1, wf_in h0, by show l2.length ≤ _; omega⟩
theorem nodes_trod (fuel : Nat) (v : Value) (x : DataW H × List MemPlace) (h : DataW.trod enc Tryd.prog w base spare held fuel 22 [v] = some x) (hw : WtOK Tryd.prog 22 x.1) :
    ∃ l : List TN, IsRow 3 ETN w (· < w.heap.size) v l ∧ TermAll l := by
  obtain ⟨l, hl, hp, b⟩ := rowOf_trodW Tryd.underlying22 (by kernel_rfl : Tryd.prog.cellsOf 58 = 3) (by omega) tn_trod h hw
  rw [show Tryd.prog.bytesOf 58 = 48 from by kernel_rfl] at b
  unfold reachBytes at b
  exact ⟨l, hl, hp, by omega⟩
theorem term_trod (fuel : Nat) (v : Value) (x : DataW H × List MemPlace) (h : DataW.trod enc Tryd.prog w base spare held fuel 24 [v] = some x) (hw : WtOK Tryd.prog 24 x.1) :
    ∃ l : List TN, IsRow 3 ETN w (· < w.heap.size) v l ∧ TermAll l := by
  obtain ⟨n, y, k0, w0⟩ := field_of_trodW Tryd.underlying24 h hw 0 _ rfl (by kernel_rfl) (by simp)
  exact nodes_trod n v y k0 w0
set_option maxRecDepth 100000 in
/-- a term that is an argument -/
theorem term_arg {r : Go.Reach} {b0 : Nat} {v : Value} {d : DataW H} {ps : List MemPlace} (hval : Value.okWide Tryd.prog w r b0 24 v) (h : DataW.Trod enc Tryd.prog w base spare held 24 v d ps) (hw : WtOK Tryd.prog 24 d) :
    ∃ (u : Value) (l : List TN), v = .agg #[u] ∧ IsRow 3 ETN w (· < w.heap.size) u l ∧ TermAll l := by
  obtain ⟨cs, rfl, hsz⟩ := okWide_struct Tryd.underlying24 hval
  have hsz2 := hsz.trans (by kernel_rfl : Tryd.prog.cellsOf 24 = 1)
  obtain ⟨u, rfl⟩ : ∃ u, cs = #[u] := by
    obtain ⟨l⟩ := cs
    match l, hsz2 with
    | [a], _ => exact ⟨a, rfl⟩
  obtain ⟨fuel, hf⟩ := h
  obtain ⟨l, hl, hp⟩ := term_trod fuel u _ (by simpa [Value.cells] using hf) hw
  exact ⟨u, l, rfl, hl, hp⟩
end
end Go.Proofs.YtgcbnndbeoekgaaDoor
