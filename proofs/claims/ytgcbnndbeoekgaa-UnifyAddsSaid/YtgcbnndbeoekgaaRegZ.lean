import Derived.Test.YtgcbnndbeoekgaaRegY
set_option linter.unusedSimpArgs false
set_option linter.unusedVariables false
namespace Go.Proofs.Ytgcbnndbeoekgaa
open Go
section
variable {P : Program} {ops : Array Oper} {Q : Exit → Act → World → Prop} {md : Region.Mode} {S : World → Prop} {e : Nat}
/-- One of three may come up. -/
theorem wpAnyY_three {i j m : Nat} {oi oj om : Oper} {fuel : Nat} {listed : Array Bool} {a : Act} {w : World} (hi : ops[i]? = some oi) (hj : ops[j]? = some oj) (hm : ops[m]? = some om) (hr : Region.ready md ops listed = [i, j, m])
    (h1 : ∀ K' : Act → World → Prop, Shut (∀ a w, (Region.waitsFor md ops e i = true → S w) → wpAnyY P md ops Q S e fuel (listed.setIfInBounds i true) a w → K' a w) → if Region.wanted oi (yielded ops a.tmps) = true then Oper.wp P oi a w K' Q else K' (a.put oi.dst undef) w)
    (h2 : ∀ K' : Act → World → Prop, Shut (∀ a w, (Region.waitsFor md ops e j = true → S w) → wpAnyY P md ops Q S e fuel (listed.setIfInBounds j true) a w → K' a w) → if Region.wanted oj (yielded ops a.tmps) = true then Oper.wp P oj a w K' Q else K' (a.put oj.dst undef) w)
    (h3 : ∀ K' : Act → World → Prop, Shut (∀ a w, (Region.waitsFor md ops e m = true → S w) → wpAnyY P md ops Q S e fuel (listed.setIfInBounds m true) a w → K' a w) → if Region.wanted om (yielded ops a.tmps) = true then Oper.wp P om a w K' Q else K' (a.put om.dst undef) w) :
    wpAnyY P md ops Q S e (fuel + 1) listed a w := by
  refine ⟨fun h0 => (by rw [hr] at h0; cases h0), fun k hk => ?_⟩
  rw [hr] at hk
  simp only [List.mem_cons, List.not_mem_nil, or_false] at hk
  rcases hk with rfl | rfl | rfl
  · exact wpOp_step hi fun K' hK => h1 K' (fun a w h1 h2 => hK a w ⟨h1, h2⟩)
  · exact wpOp_step hj fun K' hK => h2 K' (fun a w h1 h2 => hK a w ⟨h1, h2⟩)
  · exact wpOp_step hm fun K' hK => h3 K' (fun a w h1 h2 => hK a w ⟨h1, h2⟩)
end
end Go.Proofs.Ytgcbnndbeoekgaa
