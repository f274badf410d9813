import Derived.Test.YtgcbnndbeoekgaaDoorTextR
set_option linter.unusedSimpArgs false
set_option linter.unusedVariables false
/- bounds in memory; what stands for a hole, as the document looks it up; its Print -/
namespace Go.Proofs.YtgcbnndbeoekgaaDoor
open Go Go.RowKit

def EBind (w : World) (F : Nat → Prop) (x : ABind) (cs : List Value) : Prop := ∃ v, cs = [.int .i64 x.hole, v] ∧ IsRow 3 ETN w F v x.term
theorem EBind.stays : Stays EBind := fun _ _ _ _ _ _ hF hk ⟨v, e, h⟩ => ⟨v, e, h.keep ETN.stays hk hF⟩
theorem bind_at {w : World} {F : Nat → Prop} {A : Option Addr} {l : List ABind} (h : RowOf 2 EBind w F A l) {i : Nat} (hi : i < l.length) :
    ∃ b off S c, A = some ⟨b, off, none⟩ ∧ F b ∧ w.cell? ⟨b, off + i * 2, none⟩ = some (.int .i64 l[i].hole) ∧ w.cell? ⟨b, off + i * 2 + 1, none⟩ = some (.slice S l[i].term.length c) ∧
      l[i].term.length ≤ c ∧ c ≤ maxLen ∧ RowOf 3 ETN w F S l[i].term := by
  obtain ⟨b, off, rfl, hb⟩ := h.1 (by intro hn; subst hn; simp at hi)
  obtain ⟨cs, _, ⟨v, hx, S, c, rfl, hc1, hc2, hr⟩, hc⟩ := h.2 i hi
  have hc := hc b off rfl
  subst hx
  exact ⟨b, off, S, c, rfl, hb, hc 0 (by omega), hc 1 (by omega), hc1, hc2, hr⟩

end Go.Proofs.YtgcbnndbeoekgaaDoor
