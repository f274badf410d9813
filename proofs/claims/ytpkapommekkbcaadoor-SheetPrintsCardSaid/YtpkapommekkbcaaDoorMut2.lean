import Derived.Test.YtpkapommekkbcaaDoorMut
set_option linter.unusedSimpArgs false
set_option linter.unusedVariables false
namespace Go.Proofs.YtpkapommekkbcaaDoor
open Go Go.RowKit

theorem count_pos {o : Option Nat} {l : List (Option Nat)} (h : o ∈ l) : 0 < l.count o := List.count_pos_iff.2 h
theorem count_no {o : Option Nat} {l : List (Option Nat)} (h : o ∉ l) : l.count o = 0 := List.count_eq_zero.2 h
theorem all_append (a b : List LN) : allBlocks (a ++ b) = allBlocks a ++ allBlocks b := List.flatMap_append
section
variable {w w' : World} {base : Nat} {v v' : Value} {l : List LN} {x : LN}
/-- a list's block is not the row's -/
theorem OwnM.row_ne (h : OwnM w base v l) {y : LN} (hy : y ∈ l) {b : Nat} (hb : some b ∈ y.blocks) : some b ≠ v.ownBlock := by
  intro e
  have h1 := h.dis b
  rw [← e, List.count_cons_self] at h1
  have := count_pos (mem_all hy hb)
  omega
theorem OwnM.push (h : OwnM w base v l) (hx : OwnL w base x) (hd : ∀ b, x.blocks.count (some b) ≤ 1) (hsep : ∀ b, some b ∈ x.blocks → some b ∉ (v.ownBlock :: allBlocks l))
    (hrow : w'.ownsRow base 37 7 v' (l.length + 1) (l.flatMap LN.cells ++ x.cells)) (hg : w.grownBy w' v.ownBlock) (hat : v'.ownBlock = v.ownBlock ∨ v'.ownBlock = some w.heap.size) : OwnM w' base v' (l ++ [x]) := by
  refine ⟨by simpa using hrow, fun y hy => ?_, fun b => ?_⟩
  · rcases List.mem_append.1 hy with hy | hy
    · exact (h.lists y hy).keep fun b hb => hg.block b ((h.lists y hy).lt b hb).2 (h.row_ne hy hb)
    · simp only [List.mem_cons, List.not_mem_nil, or_false] at hy
      subst hy
      exact hx.keep fun b hb => hg.block b (hx.lt b hb).2 (fun e => hsep b hb (by rw [e]; exact List.mem_cons_self ..))
  · have h1 := h.dis b
    have h2 := hd b
    have h3 : some b ∈ x.blocks → (v.ownBlock :: allBlocks l).count (some b) = 0 := fun hb => count_no (hsep b hb)
    have h4 : some b ∉ x.blocks → x.blocks.count (some b) = 0 := count_no
    have e1 : (v'.ownBlock :: allBlocks (l ++ [x])).count (some b) = (if v'.ownBlock = some b then 1 else 0) + (allBlocks l).count (some b) + x.blocks.count (some b) := by
      rw [all_append, List.count_cons, List.count_append]
      simp only [allBlocks, List.flatMap_cons, List.flatMap_nil, List.append_nil, beq_iff_eq]
      omega
    have e2 : (v.ownBlock :: allBlocks l).count (some b) = (if v.ownBlock = some b then 1 else 0) + (allBlocks l).count (some b) := by
      rw [List.count_cons]; simp only [beq_iff_eq]; omega
    rw [e1]
    rw [e2] at h1 h3
    rcases hat with e | e
    · rw [e]
      by_cases hb : some b ∈ x.blocks
      · have := h3 hb; omega
      · have := h4 hb; omega
    · rw [e]
      by_cases hbw : w.heap.size = b
      · subst hbw
        have n1 : (allBlocks l).count (some w.heap.size) = 0 := count_no fun hm => by
          have := (h.lt _ (List.mem_cons_of_mem _ hm)).2; omega
        have n2 : x.blocks.count (some w.heap.size) = 0 := count_no fun hm => by
          have := (hx.lt _ hm).2; omega
        rw [if_pos rfl]; omega
      · rw [if_neg (fun e => hbw (by injection e))]
        by_cases hb : some b ∈ x.blocks
        · have := h3 hb; omega
        · have := h4 hb; omega
end
end Go.Proofs.YtpkapommekkbcaaDoor
