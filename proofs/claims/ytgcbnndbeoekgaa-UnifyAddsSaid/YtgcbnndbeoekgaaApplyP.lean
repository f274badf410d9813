import Derived.Test.YtgcbnndbeoekgaaMayR
import Derived.Test.YtgcbnndbeoekgaaBndP
import Derived.Test.YtgcbnndbeoekgaaTerm
set_option linter.unusedSimpArgs false
set_option linter.unusedVariables false
section
/- a term's text with what stands for holes in their places, as the document has it -/
namespace Go.Proofs.Ytgcbnndbeoekgaa
open Go Go.RowKit

end Go.Proofs.Ytgcbnndbeoekgaa
end
section
/- what comes of a bound that is applied, in plain Lean -/
namespace Go.Proofs.Ytgcbnndbeoekgaa
open Go Go.RowKit

open Classical in
noncomputable def bsOf (b : List ABind) : List (Nat × Fo) := if h : MayP b then (bnd_of h).choose else []
open Classical in
noncomputable def treeOf (l : List TN) : Fo := if h : rightI l = 0 then (good_tree h).choose else .nil
theorem bsOf_ok {b : List ABind} (h : MayP b) : Bnd b (bsOf b) := by unfold bsOf; rw [dif_pos h]; exact (bnd_of h).choose_spec
theorem treeOf_ok {l : List TN} (h : rightI l = 0) : (treeOf l).one ∧ (treeOf l).wf ∧ l = (treeOf l).flat 0 ∧ (treeOf l).size ≤ 256 := by unfold treeOf; rw [dif_pos h]; exact (good_tree h).choose_spec
section
variable {b : List ABind} {l : List TN}
end
/-- rows of nodes lie in no block that holds no number -/
theorem ints_avoid {w : World} {F : Nat → Prop} {A : Option Addr} {l : List Int} {g : Nat} (h : RowOf 1 EInt w F A l) (hg : ∀ off n, w.cell? ⟨g, off, none⟩ ≠ some (.int .i64 n)) : RowOf 1 EInt w (fun b => F b ∧ b ≠ g) A l := by
  refine ⟨fun hn => ?_, h.2⟩
  have h0 : 0 < l.length := by
    cases l with
    | nil => exact absurd rfl hn
    | cons _ _ => simp
  obtain ⟨b, off, e, hb, hc⟩ := ints_at h h0
  exact ⟨b, off, e, hb, fun e2 => hg off l[0] (by rw [← e2]; exact hc)⟩
theorem nodes_avoid {w : World} {F : Nat → Prop} {A : Option Addr} {l : List TN} {g : Nat} (h : RowOf 3 ETN w F A l) (hg : ∀ off n, w.cell? ⟨g, off, none⟩ ≠ some (.int .i64 n)) : RowOf 3 ETN w (fun b => F b ∧ b ≠ g) A l := by
  refine ⟨fun hn => ?_, fun i hi => ?_⟩
  · have h0 : 0 < l.length := by
      cases l with
      | nil => exact absurd rfl hn
      | cons _ _ => simp
    obtain ⟨b, off, _, _, e, hb, hc, _⟩ := nodes_at h h0
    exact ⟨b, off, e, hb, fun e2 => hg (off + 0 * 3) l[0].var (by rw [← e2]; exact hc)⟩
  · obtain ⟨cs, h1, ⟨v, e, A', c', e', h3, h4, h5⟩, h6⟩ := h.2 i hi
    exact ⟨cs, h1, ⟨v, e, A', c', e', h3, h4, ints_avoid h5 hg⟩, h6⟩
theorem slice_noint {w : World} {g : Nat} {t : TypeId} {A : Option Addr} {n c : Nat} (h : Blk w g t #[.slice A n c]) : ∀ off m, w.cell? ⟨g, off, none⟩ ≠ some (.int .i64 m) := by
  intro off m
  rw [h.cell off]
  cases off with
  | zero => simp
  | succ k => simp
end Go.Proofs.Ytgcbnndbeoekgaa
end
