/- terms that the law reads of texts, pairs that it makes -/
import Derived.Test.YtgcbnndbeoekgaaDoorAwakeP
import Derived.Test.YtgcbnndbeoekgaaDoorUSolve
import Derived.Test.YtgcbnndbeoekgaaDoorTerm
import Derived.Test.YtgcbnndbeoekgaaDoorNodesX
set_option linter.unusedSimpArgs false
set_option linter.unusedVariables false
namespace Go.Proofs.YtgcbnndbeoekgaaDoor
open Go Go.RowKit

theorem flat_pairs : ∀ (L : List ((Value × Value) × (List TN × List TN))) (i j : Nat) (h : i < L.length), j < 2 → (L.flatMap fun x => [x.1.1, x.1.2])[i * 2 + j]? = [L[i].1.1, L[i].1.2][j]?
  | [], i, j, h, _ => absurd h (Nat.not_lt_zero _)
  | x :: r, 0, j, h, hj => by
    match j, hj with
    | 0, _ => rfl
    | 1, _ => rfl
  | x :: r, i + 1, j, h, hj => by
    have ih := flat_pairs r i j (Nat.lt_of_succ_lt_succ h) hj
    rw [show (i + 1) * 2 + j = i * 2 + j + 1 + 1 by omega]
    exact ih
theorem pairs_row {w : World} {F : Nat → Prop} {q : Nat} (L : List ((Value × Value) × (List TN × List TN))) (hr : ∀ x ∈ L, IsRow 3 ETN w F x.1.1 x.2.1 ∧ IsRow 3 ETN w F x.1.2 x.2.2) (hq : Blk w q 45 (L.flatMap fun x => [x.1.1, x.1.2]).toArray) (hF : F q) :
    RowOf 2 EPair w F (some ⟨q, 0, none⟩) (L.map (·.2)) := by
  refine ⟨fun _ => ⟨q, 0, rfl, hF⟩, fun i hi => ?_⟩
  have hi' : i < L.length := by simpa using hi
  refine ⟨[L[i].1.1, L[i].1.2], rfl, ⟨_, _, rfl, ?_, ?_⟩, fun b off hA j hj => ?_⟩
  · rw [List.getElem_map]; exact (hr _ (List.getElem_mem hi')).1
  · rw [List.getElem_map]; exact (hr _ (List.getElem_mem hi')).2
  · cases hA
    rw [Nat.zero_add, hq.cell, List.getElem?_toArray]
    exact flat_pairs L i j hi' hj
end Go.Proofs.YtgcbnndbeoekgaaDoor
