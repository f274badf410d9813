/- maps of values by whole numbers -/
import Derived.Test.YtpkapommekkbcaaDoorBase
import Derived.Test.YtpkapommekkbcaaDoorProg
import Derived.Maps.OwnOps
import Derived.Maps.OwnSet
import Derived.Maps.OwnRows
import Derived.Maps.Range
set_option linter.unusedSimpArgs false
set_option linter.unusedVariables false
namespace Go.Proofs.YtpkapommekkbcaaDoor
open Go Go.RowKit Go.Maps

/-- an element reads as itself -/
def heldM (v : Value) : Option (DataW Value × List MemPlace) := some (.held v, [])
theorem lawM : Keyed Tryd.prog 3 := int_keyed Tryd.underlying3
def InI (x : Int) : Prop := -9223372036854775808 ≤ x ∧ x ≤ 9223372036854775807
theorem keyM {id : Int} (h : InI id) : keyOf Tryd.prog 3 (.int .i64 id) = some (.int .i64 id) := keyOf_int_mk Tryd.underlying3 (by
  have h1 : IntKind.i64.min = -9223372036854775808 := by decide
  have h2 : IntKind.i64.max = 9223372036854775807 := by decide
  simp only [Lit.wf, Bool.and_eq_true, decide_eq_true_eq, h1, h2]
  exact h)
def kM (id : Int) : Lit := .int .i64 id
theorem kM_ne {a b : Int} (h : a ≠ b) : kM a ≠ kM b := fun e => h (by injection e)
/-- the map of some numbers' values -/
structure MapV (D : DataW Value) (bs : List (Int × Value)) : Prop where
  isMap : IsMap D
  has_ : ∀ id : Int, Maps.has D (kM id) = true ↔ ∃ p ∈ bs, p.1 = id
  at_ : ∀ p ∈ bs, ∀ z, D.atKey (kM p.1) z = .held p.2
theorem MapV.start : MapV (.map []) [] := ⟨isMap_empty, fun id => by simp [Maps.has], fun x hx => by simp at hx⟩
theorem MapV.put {D : DataW Value} {bs : List (Int × Value)} (h : MapV D bs) (p : Int × Value) (hx : ∀ q ∈ bs, q.1 ≠ p.1) : MapV (D.put (kM p.1) (.held p.2)) (bs ++ [p]) := by
  refine ⟨h.isMap.put _ _, fun id => ?_, fun y hy z => ?_⟩
  · by_cases e : id = p.1
    · subst e
      rw [has_put_same h.isMap (show WideAt.IsKeyLit (kM p.1) from trivial)]
      simp
    · rw [has_put_other (kM_ne e), h.has_]
      constructor
      · rintro ⟨y, hy, e2⟩; exact ⟨y, List.mem_append_left _ hy, e2⟩
      · rintro ⟨y, hy, e2⟩
        rcases List.mem_append.1 hy with hy | hy
        · exact ⟨y, hy, e2⟩
        · simp only [List.mem_cons, List.not_mem_nil, or_false] at hy
          subst hy; exact absurd e2.symm e
  · rcases List.mem_append.1 hy with hy | hy
    · rw [atKey_put_other (kM_ne (hx y hy))]
      exact h.at_ y hy z
    · simp only [List.mem_cons, List.not_mem_nil, or_false] at hy
      subst hy
      exact atKey_put_same h.isMap (show WideAt.IsKeyLit (kM y.1) from trivial) _ _
/-- what stands at a number, or z -/
def lookM (z : Value) (bs : List (Int × Value)) (id : Int) : Value := match bs.find? (fun p => p.1 == id) with | some p => p.2 | none => z
theorem MapV.look {D : DataW Value} {bs : List (Int × Value)} (h : MapV D bs) (z : Value) (id : Int) : D.atKey (kM id) (.held z) = .held (lookM z bs id) := by
  unfold lookM
  cases e : bs.find? (fun p => p.1 == id) with
  | some p =>
    have h1 := List.find?_some e
    have h2 := List.mem_of_find?_eq_some e
    have h3 : p.1 = id := by simpa using h1
    rw [← h3]
    exact h.at_ p h2 _
  | none =>
    refine atKey_of_not_has ?_ _
    cases hh : Maps.has D (kM id) with
    | false => rfl
    | true =>
      obtain ⟨p, hp, e2⟩ := (h.has_ id).1 hh
      have := List.find?_eq_none.1 e p hp
      simp [e2] at this
set_option maxRecDepth 100000 in
theorem look_run {w : World} {b n : Nat} {D : DataW Value} {bs : List (Int × Value)} {t e : TypeId} {z : Value} (hown : w.ownsMap Tryd.prog 3 heldM b n D) (hD : MapV D bs) (ht : Tryd.prog.underlying t = some (.map 3 e)) (hz : (zeroValue e).run Tryd.prog w = .ok z w) {id : Int} (hin : InI id) :
    (Instr.lookup t (.map (some b)) (.int .i64 id) false).run Tryd.prog w = .ok (lookM z bs id) w := by
  obtain ⟨v, ps, hrun, hv⟩ := hown.lookup (z := z) lawM ht hz (zd := .held z) (zp := []) rfl (keyM hin)
  rw [hrun]
  have h2 : DataW.held v = D.atKey (kM id) (.held z) := by
    unfold heldM at hv
    injection hv with hv
    exact (Prod.mk.inj hv).1
  rw [hD.look] at h2
  injection h2 with h2
  rw [h2]
theorem lookM_mem {z : Value} {bs : List (Int × Value)} {id : Int} (h : ∃ p ∈ bs, p.1 = id) : ∃ p ∈ bs, p.1 = id ∧ lookM z bs id = p.2 := by
  unfold lookM
  cases e : bs.find? (fun p => p.1 == id) with
  | some p => exact ⟨p, List.mem_of_find?_eq_some e, by simpa using List.find?_some e, rfl⟩
  | none =>
    obtain ⟨p, hp, e2⟩ := h
    have := List.find?_eq_none.1 e p hp
    simp [e2] at this
theorem zero_int (w : World) : (zeroValue 3).run Tryd.prog w = .ok (.int .i64 0) w := by kernel_rfl
end Go.Proofs.YtpkapommekkbcaaDoor
