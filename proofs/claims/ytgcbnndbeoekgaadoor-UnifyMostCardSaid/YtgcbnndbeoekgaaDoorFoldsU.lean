import Derived.Test.YtgcbnndbeoekgaaDoorAlikeU
import Derived.Lib.QuietBelow
import Derived.Test.YtgcbnndbeoekgaaDoorFewP
import Derived.Test.YtgcbnndbeoekgaaDoorData15
set_option linter.unusedSimpArgs false
set_option linter.unusedVariables false
section
/- the law's equal: two like bounds are equal -/
namespace Go.Proofs.YtgcbnndbeoekgaaDoor
open Go Go.RowKit

end Go.Proofs.YtgcbnndbeoekgaaDoor
end
section
/- the law: pairs are solved as they are added, one by one; given that awake answers true -/
namespace Go.Proofs.YtgcbnndbeoekgaaDoor
open Go Go.RowKit Go.Maps

/-- the library's table is laid -/
def Tab (w : World) : Prop := Lib.TabIs Tryd.prog w "internal/strconv.uint64pow10" .u64 Lib.pow10Tab
theorem Tab.below {w w' : World} (h : Tab w) (hb : Below w.heap.size w w') : Tab w' := ((Lib.tabBelow_of_tabIs h).on hb).here
/-- awake answers true -/
def AwakeOk : Prop := ∀ w : World, Tab w → Calls Tryd.prog 13 #[] w fun e w' => e = .returned (.bool true) ∧ Below w.heap.size w w'
theorem SolvedTo.trees {ps : List (List TN × List TN)} {k : Nat} {out : List ABind} (h : SolvedTo ps k out) : ∀ x ∈ out, ∃ T, OkT T ∧ x.term = T.flat 0 := fun x hx => by
  obtain ⟨bs, h1, h2⟩ := h.out
  rw [h2] at hx
  obtain ⟨p, hp, rfl⟩ := List.mem_map.1 hx
  exact ⟨p.2, ⟨h1.1.one p hp, (ok_wf h.wf h1 p hp).2, h1.2.2 p hp⟩, rfl⟩

end Go.Proofs.YtgcbnndbeoekgaaDoor
end
