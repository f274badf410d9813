import Derived.Test.YtpkapommekkbcaaDoorBase
import Derived.Test.YtpkapommekkbcaaDoorModel
set_option linter.unusedSimpArgs false
set_option linter.unusedVariables false
namespace Go.Proofs.YtpkapommekkbcaaDoor
open Go Go.RowKit

/-! ### Models in memory -/
def intCells (n : Int) : List Value := [.int .i64 n]
theorem intCells_len : ∀ n : Int, (intCells n).length = 1 := fun _ => rfl
def EInt : World → (Nat → Prop) → Int → List Value → Prop := EFlat intCells
theorem EInt.stays : Stays EInt := EFlat.stays _
def propCells (p : AProp) : List Value := [.string p.name, .string p.value]
theorem propCells_len : ∀ p : AProp, (propCells p).length = 2 := fun _ => rfl
def EProp : World → (Nat → Prop) → AProp → List Value → Prop := EFlat propCells
theorem EProp.stays : Stays EProp := EFlat.stays _
def refCells (r : ARef) : List Value := [.string r.role, .int .i64 r.target]
theorem refCells_len : ∀ r : ARef, (refCells r).length = 2 := fun _ => rfl
def ERef : World → (Nat → Prop) → ARef → List Value → Prop := EFlat refCells
theorem ERef.stays : Stays ERef := EFlat.stays _
/-- a node's cells, its lists as they lie -/
def nodeCellsA (n : ANode) (vp vk vr : Value) : List Value := [.int .i64 n.id, .string n.concept, .int .i64 n.parent, .string n.role, vp, vk, vr]
def ENode (w : World) (F : Nat → Prop) (n : ANode) (cs : List Value) : Prop :=
  ∃ vp vk vr, cs = nodeCellsA n vp vk vr ∧ IsRow 2 EProp w F vp n.props ∧ IsRow 1 EInt w F vk n.kids ∧ IsRow 2 ERef w F vr n.refs
theorem ENode.stays : Stays ENode := fun _ _ _ _ _ _ hF hk ⟨vp, vk, vr, e, h1, h2, h3⟩ => ⟨vp, vk, vr, e, h1.keep EProp.stays hk hF, h2.keep EInt.stays hk hF, h3.keep ERef.stays hk hF⟩
/-- nodes whose lists are not nil, or whatever else holds of a list's value -/
def IsModel (w : World) (F : Nat → Prop) (v : Value) (m : AModel) : Prop := ∃ x, v = .agg #[.int .i64 m.next, x] ∧ IsRow 7 ENode w F x m.nodes

section
variable {w w' : World} {F F' : Nat → Prop} {A : Option Addr}
theorem IsModel.keep {v : Value} {m : AModel} (h : IsModel w F v m) (hk : Keep F w w') (hF : ∀ b, F b → F' b) : IsModel w' F' v m := by
  obtain ⟨x, e, hx⟩ := h
  exact ⟨x, e, hx.keep ENode.stays hk hF⟩
theorem flat1_at {α : Type} {f : α → List Value} {l : List α} (h : RowOf 1 (EFlat f) w F A l) {i : Nat} (hi : i < l.length) {u : Value} (hf : f l[i] = [u]) :
    ∃ b off, A = some ⟨b, off, none⟩ ∧ F b ∧ w.cell? ⟨b, off + i, none⟩ = some u := by
  obtain ⟨b, off, rfl, hb⟩ := h.1 (by intro hn; subst hn; simp at hi)
  obtain ⟨cs, _, hx, hc⟩ := h.2 i hi
  have hc := hc b off rfl
  unfold EFlat at hx
  rw [hf] at hx
  subst hx
  exact ⟨b, off, rfl, hb, by simpa using hc 0 (by omega)⟩
theorem flat2_at {α : Type} {f : α → List Value} {l : List α} (h : RowOf 2 (EFlat f) w F A l) {i : Nat} (hi : i < l.length) {u v : Value} (hf : f l[i] = [u, v]) :
    ∃ b off, A = some ⟨b, off, none⟩ ∧ F b ∧ w.cell? ⟨b, off + i * 2, none⟩ = some u ∧ w.cell? ⟨b, off + i * 2 + 1, none⟩ = some v := by
  obtain ⟨b, off, rfl, hb⟩ := h.1 (by intro hn; subst hn; simp at hi)
  obtain ⟨cs, _, hx, hc⟩ := h.2 i hi
  have hc := hc b off rfl
  unfold EFlat at hx
  rw [hf] at hx
  subst hx
  exact ⟨b, off, rfl, hb, by simpa using hc 0 (by omega), by simpa using hc 1 (by omega)⟩
theorem int_at {l : List Int} (h : RowOf 1 EInt w F A l) {i : Nat} (hi : i < l.length) : ∃ b off, A = some ⟨b, off, none⟩ ∧ F b ∧ w.cell? ⟨b, off + i, none⟩ = some (.int .i64 l[i]) :=
  flat1_at h hi rfl
theorem prop_at {l : List AProp} (h : RowOf 2 EProp w F A l) {i : Nat} (hi : i < l.length) : ∃ b off, A = some ⟨b, off, none⟩ ∧ F b ∧ w.cell? ⟨b, off + i * 2, none⟩ = some (.string l[i].name) ∧ w.cell? ⟨b, off + i * 2 + 1, none⟩ = some (.string l[i].value) :=
  flat2_at h hi rfl
theorem ref_at {l : List ARef} (h : RowOf 2 ERef w F A l) {i : Nat} (hi : i < l.length) : ∃ b off, A = some ⟨b, off, none⟩ ∧ F b ∧ w.cell? ⟨b, off + i * 2, none⟩ = some (.string l[i].role) ∧ w.cell? ⟨b, off + i * 2 + 1, none⟩ = some (.int .i64 l[i].target) :=
  flat2_at h hi rfl
/-- a node in a row: its seven cells, and its three lists -/
theorem node_at {l : List ANode} (h : RowOf 7 ENode w F A l) {i : Nat} (hi : i < l.length) :
    ∃ b off Sp cp Sk ck Sr cr, A = some ⟨b, off, none⟩ ∧ F b ∧
      w.cell? ⟨b, off + i * 7, none⟩ = some (.int .i64 l[i].id) ∧ w.cell? ⟨b, off + i * 7 + 1, none⟩ = some (.string l[i].concept) ∧
      w.cell? ⟨b, off + i * 7 + 2, none⟩ = some (.int .i64 l[i].parent) ∧ w.cell? ⟨b, off + i * 7 + 3, none⟩ = some (.string l[i].role) ∧
      w.cell? ⟨b, off + i * 7 + 4, none⟩ = some (.slice Sp l[i].props.length cp) ∧ w.cell? ⟨b, off + i * 7 + 5, none⟩ = some (.slice Sk l[i].kids.length ck) ∧
      w.cell? ⟨b, off + i * 7 + 6, none⟩ = some (.slice Sr l[i].refs.length cr) ∧
      (l[i].props.length ≤ cp ∧ cp ≤ maxLen ∧ RowOf 2 EProp w F Sp l[i].props) ∧ (l[i].kids.length ≤ ck ∧ ck ≤ maxLen ∧ RowOf 1 EInt w F Sk l[i].kids) ∧ (l[i].refs.length ≤ cr ∧ cr ≤ maxLen ∧ RowOf 2 ERef w F Sr l[i].refs) := by
  obtain ⟨b, off, rfl, hb⟩ := h.1 (by intro hn; subst hn; simp at hi)
  obtain ⟨cs, _, ⟨vp, vk, vr, hx, ⟨Sp, cp, rfl, p1, p2, p3⟩, ⟨Sk, ck, rfl, k1, k2, k3⟩, ⟨Sr, cr, rfl, r1, r2, r3⟩⟩, hc⟩ := h.2 i hi
  have hc := hc b off rfl
  subst hx
  exact ⟨b, off, Sp, cp, Sk, ck, Sr, cr, rfl, hb, hc 0 (by omega), hc 1 (by omega), hc 2 (by omega), hc 3 (by omega), hc 4 (by omega), hc 5 (by omega), hc 6 (by omega), ⟨p1, p2, p3⟩, ⟨k1, k2, k3⟩, ⟨r1, r2, r3⟩⟩
end
end Go.Proofs.YtpkapommekkbcaaDoor
