import Derived.Test.YtgcbnndbeoekgaaDoorMeetM
set_option linter.unusedSimpArgs false
set_option linter.unusedVariables false
/- small laws for meet, measure and write -/
namespace Go.Proofs.YtgcbnndbeoekgaaDoor
open Go Go.RowKit Go.Maps

theorem pair_info15 : (Tryd.prog.info? 98).map (fun i => (i.zero, i.size, i.bytes)) = some (some (.agg #[.int .i64 0, .int .i64 0]), 2, 16) := by kernel_rfl
theorem rel_none {r0 r : Nat → Nat} {a b : Nat} (h : ∀ i j, Rel r0 [(a, b)] i j → Rel r [] i j) : (∀ i j, r0 i = r0 j → r i = r j) ∧ r a = r b :=
  ⟨fun i j e => (h i j (.cls e)).none, (h a b (.pair (by simp))).none⟩
theorem argP_len {ks ks' : List Nat} (h : ks.length = ks'.length) : (argP ks ks').length = ks.length := by unfold argP; rw [List.length_zip]; omega
theorem argP_next {ks ks' : List Nat} {k : Nat} (h : k < ks.length) (h' : k < ks'.length) : (argP ks ks').take (k + 1) = (argP ks ks').take k ++ [(ks[k], ks'[k])] := by
  unfold argP
  rw [List.take_succ_eq_append_getElem (by rw [List.length_zip]; omega), List.getElem_zip]
/-- a node's arguments in memory -/
theorem NodesM.arg {w : World} {B : Nat} {v : Value} {l : List PN} (h : NodesM w B v l) {i : Nat} (hi : i < l.length) : ∃ A c, l[i].av = .slice A l[i].args.length c ∧ ∀ k (hk : k < l[i].args.length), ∃ g, A = some ⟨g, 0, none⟩ ∧ w.cell? ⟨g, k, none⟩ = some (.int .i64 l[i].args[k]) := by
  have ha := h.args _ (List.getElem_mem hi)
  obtain ⟨A, c, e⟩ := own_shape ha
  refine ⟨A, c, e, fun k hk => ?_⟩
  rw [e] at ha
  rcases ha.2 with ⟨_, h0⟩ | ⟨g, cap, cur, e2, _⟩
  · omega
  · injection e2 with e2 _ _
    subst e2
    refine ⟨g, rfl, ?_⟩
    rw [World.ownsRow.cellAt ha k (by omega)]
    unfold natCells
    simp [hk]
end Go.Proofs.YtgcbnndbeoekgaaDoor
