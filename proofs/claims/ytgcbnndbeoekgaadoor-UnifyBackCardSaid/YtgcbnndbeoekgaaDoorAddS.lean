import Derived.Test.YtgcbnndbeoekgaaDoorApplyP
import Derived.Test.YtgcbnndbeoekgaaDoorOutc
import Derived.Test.YtgcbnndbeoekgaaDoorNFP
set_option linter.unusedSimpArgs false
set_option linter.unusedVariables false
/- what Add and Solve say, told of their arguments alone -/
namespace Go.Proofs.YtgcbnndbeoekgaaDoor
open Go Go.RowKit

def OutIs : Outc → Int → List ABind → Prop
  | .ok bs, e, l => e = 0 ∧ l = bs.map bindOf
  | .clash, e, l => e = 150 ∧ l = []
  | .occurs, e, l => e = 151 ∧ l = []
  | .long, e, l => e = 3 ∧ l = []
theorem OutIs.same {o : Outc} {e e' : Int} {l l' : List ABind} (h : OutIs o e l) (h' : OutIs o e' l') : e = e' ∧ l = l' := by
  cases o <;> exact ⟨h.1.trans h'.1.symm, h.2.trans h'.2.symm⟩
noncomputable def addEqs (b : List ABind) (x y : List TN) : List (Fo × Fo) := eqsB (bsOf b) ++ [(treeOf x, treeOf y)]
def AddSays (b : List ABind) (x y : List TN) (err : Int) (out : List ABind) : Prop :=
  (¬ MayP b ∧ err = 2 ∧ out = []) ∨ (MayP b ∧ rightI x ≠ 0 ∧ err = rightI x ∧ out = []) ∨ (MayP b ∧ rightI x = 0 ∧ rightI y ≠ 0 ∧ err = rightI y ∧ out = []) ∨
  (MayP b ∧ rightI x = 0 ∧ rightI y = 0 ∧ ∃ o, Comes (addEqs b x y) o ∧ OutIs o err out)
theorem AddSays.same {b : List ABind} {x y : List TN} {e e' : Int} {l l' : List ABind} (h : AddSays b x y e l) (h' : AddSays b x y e' l') : e = e' ∧ l = l' := by
  rcases h with ⟨a, b, c⟩ | ⟨a, b, c, d⟩ | ⟨a, b, c, d, f⟩ | ⟨a, b, c, o, d, f⟩ <;> rcases h' with ⟨a', b', c'⟩ | ⟨a', b', c', d'⟩ | ⟨a', b', c', d', f'⟩ | ⟨a', b', c', o', d', f'⟩
  all_goals first | contradiction | skip
  · exact ⟨b.trans b'.symm, c.trans c'.symm⟩
  · exact ⟨c.trans c'.symm, d.trans d'.symm⟩
  · exact ⟨d.trans d'.symm, f.trans f'.symm⟩
  · have := Comes.same (fun _ => Iff.rfl) d d'
    subst this
    exact f.same f'
/-- a bound and an error -/
def BoundRes (w : World) (P : Int → List ABind → Prop) (e : Ending) (w' : World) : Prop :=
  ∃ err out v, P err out ∧ e = .returned (.tuple #[v, .int .i64 err]) ∧ IsRow 2 EBind w' (fun b => w.heap.size ≤ b ∧ b < w'.heap.size) v out ∧ Below w.heap.size w w'
theorem BoundRes.none {w w' : World} {P : Int → List ABind → Prop} {err : Int} (h : P err []) (hb : Below w.heap.size w w') : BoundRes w P (.returned (.tuple #[.slice none 0 0, .int .i64 err])) w' := ⟨err, [], _, h, rfl, IsRow.nil, hb⟩
end Go.Proofs.YtgcbnndbeoekgaaDoor
