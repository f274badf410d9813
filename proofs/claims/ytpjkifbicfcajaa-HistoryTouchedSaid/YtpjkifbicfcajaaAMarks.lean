import Derived.Test.YtpjkifbicfcajaaANodes
set_option linter.unusedSimpArgs false
set_option linter.unusedVariables false
namespace Go.Proofs.Ytpjkifbicfcajaa
open Go Go.RowKit

/-! ### Rows with a mark in the room behind them -/
def Marked (size : Nat) (u : Value) (w : World) (F : Nat → Prop) (A : Option Addr) (n : Nat) : Prop := ∃ b off, A = some ⟨b, off, none⟩ ∧ F b ∧ w.cell? ⟨b, off + n * size, none⟩ = some u
def IsRowM {α : Type} (size : Nat) (E : World → (Nat → Prop) → α → List Value → Prop) (u : Value) (w : World) (F : Nat → Prop) (v : Value) (l : List α) : Prop :=
  ∃ A c, v = .slice A l.length c ∧ l.length < c ∧ c ≤ maxLen ∧ RowOf size E w F A l ∧ Marked size u w F A l.length
def markStr : Value := .string ⟨#[109, 97, 114, 107]⟩
def ENodeM (w : World) (F : Nat → Prop) (n : ANode) (cs : List Value) : Prop :=
  ∃ vp vk vr, cs = nodeCellsA n vp vk vr ∧ IsRowM 2 EProp markStr w F vp n.props ∧ IsRowM 1 EInt (.int .i64 (-7)) w F vk n.kids ∧ IsRowM 2 ERef markStr w F vr n.refs
def IsModelM (w : World) (F : Nat → Prop) (v : Value) (m : AModel) : Prop := ∃ x, v = .agg #[.int .i64 m.next, x] ∧ IsRowM 7 ENodeM (.int .i64 (-7)) w F x m.nodes

section
variable {α : Type} {size : Nat} {E : World → (Nat → Prop) → α → List Value → Prop} {u : Value} {w w' : World} {F F' : Nat → Prop} {A : Option Addr} {v : Value} {l : List α} {n : Nat}
theorem Marked.keep (h : Marked size u w F A n) (hk : Keep F w w') (hF : ∀ b, F b → F' b) : Marked size u w' F' A n := by
  obtain ⟨b, off, e, hb, hc⟩ := h
  exact ⟨b, off, e, hF b hb, (hk ⟨b, _, none⟩ hb).trans hc⟩
theorem IsRowM.keep (hE : Stays E) (hk : Keep F w w') (hF : ∀ b, F b → F' b) (h : IsRowM size E u w F v l) : IsRowM size E u w' F' v l := by
  obtain ⟨A, c, e, h1, h2, h3, h4⟩ := h
  exact ⟨A, c, e, h1, h2, h3.keep hE hk hF, h4.keep hk hF⟩
theorem IsRowM.plain (h : IsRowM size E u w F v l) : IsRow size E w F v l := by
  obtain ⟨A, c, e, h1, h2, h3, h4⟩ := h
  exact ⟨A, c, e, Nat.le_of_lt h1, h2, h3⟩
theorem ENodeM.stays : Stays ENodeM := fun _ _ _ _ _ _ hF hk ⟨vp, vk, vr, e, h1, h2, h3⟩ => ⟨vp, vk, vr, e, h1.keep EProp.stays hk hF, h2.keep EInt.stays hk hF, h3.keep ERef.stays hk hF⟩
theorem IsModelM.keep {m : AModel} (h : IsModelM w F v m) (hk : Keep F w w') (hF : ∀ b, F b → F' b) : IsModelM w' F' v m := by
  obtain ⟨x, e, hx⟩ := h
  exact ⟨x, e, hx.keep ENodeM.stays hk hF⟩
theorem RowOf.imp {E' : World → (Nat → Prop) → α → List Value → Prop} (h : RowOf size E w F A l) (hi : ∀ x cs, E w F x cs → E' w F x cs) : RowOf size E' w F A l :=
  ⟨h.1, fun i hi' => let ⟨cs, h1, h2, h3⟩ := h.2 i hi'; ⟨cs, h1, hi _ _ h2, h3⟩⟩
theorem ENodeM.plain {x : ANode} {cs : List Value} (h : ENodeM w F x cs) : ENode w F x cs := by
  obtain ⟨vp, vk, vr, e, h1, h2, h3⟩ := h
  exact ⟨vp, vk, vr, e, h1.plain, h2.plain, h3.plain⟩
theorem IsModelM.plain {m : AModel} (h : IsModelM w F v m) : IsModel w F v m := by
  obtain ⟨x, e, hx⟩ := h
  obtain ⟨A, c, e2, h1, h2, h3⟩ := hx.plain
  exact ⟨x, e, A, c, e2, h1, h2, h3.imp fun _ _ h => h.plain⟩

/-- a flat row of the call's own with one element more than is told: the mark -/
theorem IsRowM.of_own {f : α → List Value} (hf : ∀ x, (f x).length = size) (_hs : 0 < size) {base : Nat} {e : TypeId} {g cap n : Nat} {mk : List Value} (hm : mk.length = size)
    (h : w.ownsRow base e size (.slice (some ⟨g, 0, none⟩) n cap) n (l.flatMap f ++ mk)) (hn : n = l.length + 1) (hF : F g) (hu : mk[0]? = some u) : IsRowM size (EFlat f) u w F (.slice (some ⟨g, 0, none⟩) l.length cap) l := by
  subst hn
  have hcells := h.cells (g := g) rfl
  rcases h.2 with ⟨e0, _⟩ | ⟨g', cap', cur, e0, hbg, hh, hnc, hcm, _⟩
  · cases e0
  · injection e0 with e1 _ e2
    injection e1 with e1
    injection e1 with e1
    subst e1; subst e2
    refine ⟨_, _, rfl, hnc, hcm, ⟨fun _ => ⟨g, 0, rfl, hF⟩, fun i hi => ⟨f l[i], hf _, rfl, ?_⟩⟩, g, 0, rfl, hF, ?_⟩
    · intro b off ea j hj
      cases ea
      have hu2 : (f l[i])[j]? = some ((f l[i])[j]'(by rw [hf]; exact hj)) := List.getElem?_eq_getElem _
      have hlt : i * size + j < (l.flatMap f).length := by
        rw [flat_length hf]
        have : (i + 1) * size ≤ l.length * size := Nat.mul_le_mul_right _ hi
        rw [Nat.add_mul] at this; omega
      have := hcells (i * size + j) _ (by rw [List.getElem?_append_left hlt, flat_at hf l i j hi hj]; exact hu2)
      rw [add_some, Nat.zero_add] at this
      rw [Nat.zero_add, this, hu2]
    · have := hcells (l.length * size) u (by rw [List.getElem?_append_right (by rw [flat_length hf]; exact Nat.le_refl _), flat_length hf, Nat.sub_self]; exact hu)
      rw [add_some, Nat.zero_add] at this
      rw [Nat.zero_add]; exact this

def markNode : List Value := nodeCellsA ⟨-7, ByteArray.empty, 0, ByteArray.empty, [], [], []⟩ (.slice none 0 0) (.slice none 0 0) (.slice none 0 0)
/-- nodes, and the mark behind them -/
def ENodeO (w : World) (F : Nat → Prop) (x : Option ANode) (cs : List Value) : Prop := match x with | some n => ENodeM w F n cs | none => cs = markNode
theorem ENodeO.stays : Stays ENodeO := fun w w' F F' x cs hF hk h => by
  cases x with
  | none => exact h
  | some n => exact ENodeM.stays w w' F F' n cs hF hk h
theorem IsRowM.of_opt {l : List ANode} {k cap : Nat} (h : IsRow 7 ENodeO w F (.slice A k cap) (l.map some ++ [none])) : IsRowM 7 ENodeM (.int .i64 (-7)) w F (.slice A l.length cap) l := by
  obtain ⟨A', c, e, h1, h2, h3⟩ := h
  injection e with e1 e2 e3
  subst e1; subst e3
  have hlen : (l.map some ++ [none]).length = l.length + 1 := by simp
  obtain ⟨b, off, eA, hb⟩ := h3.1 (by simp)
  refine ⟨_, _, rfl, by omega, h2, ⟨fun _ => ⟨b, off, eA, hb⟩, fun i hi => ?_⟩, b, off, eA, hb, ?_⟩
  · obtain ⟨cs, a1, a2, a3⟩ := h3.2 i (by omega)
    rw [List.getElem_append_left (by simpa using hi), List.getElem_map] at a2
    exact ⟨cs, a1, a2, a3⟩
  · obtain ⟨cs, a1, a2, a3⟩ := h3.2 l.length (by omega)
    rw [List.getElem_append_right (by simp)] at a2
    simp only [List.length_map, Nat.sub_self, List.getElem_cons_zero] at a2
    have a2 : cs = markNode := a2
    have := a3 b off eA 0 (by omega)
    rw [a2] at this
    simpa [markNode, nodeCellsA] using this
end
end Go.Proofs.Ytpjkifbicfcajaa
