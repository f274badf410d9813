/- maps of values by whole numbers -/
import Derived.Test.YtgcbnndbeoekgaaDoorFindB
import Derived.Maps.OwnOps
import Derived.Maps.OwnSet
import Derived.Maps.OwnRows
import Derived.Maps.Range
set_option linter.unusedSimpArgs false
set_option linter.unusedVariables false
namespace Go.Proofs.YtgcbnndbeoekgaaDoor
open Go Go.RowKit Go.Maps

def InI (x : Int) : Prop := -9223372036854775808 ≤ x ∧ x ≤ 9223372036854775807
def kM (id : Int) : Lit := .int .i64 id
theorem kM_ne {a b : Int} (h : a ≠ b) : kM a ≠ kM b := fun e => h (by injection e)
/-- the map of some numbers' values -/
structure MapV (D : DataW Value) (bs : List (Int × Value)) : Prop where
  isMap : IsMap D
  has_ : ∀ id : Int, Maps.has D (kM id) = true ↔ ∃ p ∈ bs, p.1 = id
  at_ : ∀ p ∈ bs, ∀ z, D.atKey (kM p.1) z = .held p.2
theorem MapV.start : MapV (.map []) [] := ⟨isMap_empty, fun id => by simp [Maps.has], fun x hx => by simp at hx⟩
theorem MapV.put {D : DataW Value} {bs : List (Int × Value)} (h : MapV D bs) (p : Int × Value) (hx : ∀ q ∈ bs, q.1 ≠ p.1) : MapV (D.put (kM p.1) (.held p.2)) (bs ++ [p]) := by
  refine ⟨h.isMap.put _ _, fun id => ?_, fun y hy z => ?_⟩
  · by_cases e : id = p.1
    · subst e
      rw [has_put_same h.isMap (show WideAt.IsKeyLit (kM p.1) from trivial)]
      simp
    · rw [has_put_other (kM_ne e), h.has_]
      constructor
      · rintro ⟨y, hy, e2⟩; exact ⟨y, List.mem_append_left _ hy, e2⟩
      · rintro ⟨y, hy, e2⟩
        rcases List.mem_append.1 hy with hy | hy
        · exact ⟨y, hy, e2⟩
        · simp only [List.mem_cons, List.not_mem_nil, or_false] at hy
          subst hy; exact absurd e2.symm e
  · rcases List.mem_append.1 hy with hy | hy
    · rw [atKey_put_other (kM_ne (hx y hy))]
      exact h.at_ y hy z
    · simp only [List.mem_cons, List.not_mem_nil, or_false] at hy
      subst hy
      exact atKey_put_same h.isMap (show WideAt.IsKeyLit (kM y.1) from trivial) _ _
end Go.Proofs.YtgcbnndbeoekgaaDoor
