import Derived.Test.YtgcbnndbeoekgaaDoorMayR
import Derived.Test.YtgcbnndbeoekgaaDoorBndP
import Derived.Test.YtgcbnndbeoekgaaDoorTerm
set_option linter.unusedSimpArgs false
set_option linter.unusedVariables false
section
/- a term's text with what stands for holes in their places, as the document has it -/
namespace Go.Proofs.YtgcbnndbeoekgaaDoor
open Go Go.RowKit

end Go.Proofs.YtgcbnndbeoekgaaDoor
end
section
/- what comes of a bound that is applied, in plain Lean -/
namespace Go.Proofs.YtgcbnndbeoekgaaDoor
open Go Go.RowKit

open Classical in
noncomputable def bsOf (b : List ABind) : List (Nat × Fo) := if h : MayP b then (bnd_of h).choose else []
open Classical in
noncomputable def treeOf (l : List TN) : Fo := if h : rightI l = 0 then (good_tree h).choose else .nil
theorem bsOf_ok {b : List ABind} (h : MayP b) : Bnd b (bsOf b) := by unfold bsOf; rw [dif_pos h]; exact (bnd_of h).choose_spec
theorem treeOf_ok {l : List TN} (h : rightI l = 0) : (treeOf l).one ∧ (treeOf l).wf ∧ l = (treeOf l).flat 0 ∧ (treeOf l).size ≤ 256 := by unfold treeOf; rw [dif_pos h]; exact (good_tree h).choose_spec
noncomputable def subOf (b : List ABind) (l : List TN) : Fo := (treeOf l).sub (lookB (bsOf b))
open Classical in
noncomputable def applyE (b : List ABind) (l : List TN) : Int := if MayP b then (if rightI l = 0 then (if 256 < (subOf b l).size then 3 else 0) else rightI l) else 2
open Classical in
noncomputable def applyL (b : List ABind) (l : List TN) : List TN := if MayP b ∧ rightI l = 0 ∧ ¬ 256 < (subOf b l).size then (subOf b l).flat 0 else []
section
variable {b : List ABind} {l : List TN}
open Classical in
theorem apply_not (h : ¬ MayP b) : applyE b l = 2 ∧ applyL b l = [] := ⟨if_neg h, if_neg (fun e => h e.1)⟩
open Classical in
theorem apply_bad (h : MayP b) (h2 : rightI l ≠ 0) : applyE b l = rightI l ∧ applyL b l = [] := ⟨by unfold applyE; rw [if_pos h, if_neg h2], if_neg (fun e => h2 e.2.1)⟩
open Classical in
theorem apply_long (h : MayP b) (h2 : rightI l = 0) (h3 : 256 < (subOf b l).size) : applyE b l = 3 ∧ applyL b l = [] := ⟨by unfold applyE; rw [if_pos h, if_pos h2, if_pos h3], if_neg (fun e => e.2.2 h3)⟩
open Classical in
theorem apply_ok (h : MayP b) (h2 : rightI l = 0) (h3 : ¬ 256 < (subOf b l).size) : applyE b l = 0 ∧ applyL b l = (subOf b l).flat 0 := ⟨by unfold applyE; rw [if_pos h, if_pos h2, if_neg h3], if_pos ⟨h, h2, h3⟩⟩
theorem subOf_size (h : MayP b) (h2 : rightI l = 0) : (subOf b l).size = (l.map (wgt (lookB (bsOf b)))).sum := by
  obtain ⟨_, _, h5, _⟩ := treeOf_ok h2
  unfold subOf
  rw [Fo.sub_size (bsOf_ok h).ones _ 0, ← h5]
end
def sumTo (σ : Nat → Option Fo) (l : List TN) (i : Nat) : Nat := ((l.take i).map (wgt σ)).sum
theorem sumTo_next {σ : Nat → Option Fo} {l : List TN} {i : Nat} (h : i < l.length) : sumTo σ l (i + 1) = sumTo σ l i + wgt σ l[i] := by
  unfold sumTo
  rw [List.take_succ_eq_append_getElem h, List.map_append, List.sum_append]; simp
theorem sumTo_end {σ : Nat → Option Fo} {l : List TN} {i : Nat} (h : ¬ i < l.length) : sumTo σ l i = (l.map (wgt σ)).sum := by
  unfold sumTo; rw [List.take_of_length_le (by omega)]
theorem wgt_le {b : List ABind} {bs : List (Nat × Fo)} (h : Bnd b bs) (t : TN) : 1 ≤ wgt (lookB bs) t ∧ wgt (lookB bs) t ≤ 256 := by
  unfold wgt
  cases e : lookB bs t.var.toNat with
  | none => exact ⟨Nat.le_refl _, by show 1 ≤ 256; omega⟩
  | some T => exact ⟨Fo.one_size (h.some_ e).2.1, (h.some_ e).2.2.2.1⟩
theorem sumTo_le {b : List ABind} {bs : List (Nat × Fo)} (h : Bnd b bs) (l : List TN) (i : Nat) : sumTo (lookB bs) l i ≤ 256 * l.length := by
  have key : ∀ l : List TN, (l.map (wgt (lookB bs))).sum ≤ 256 * l.length := by
    intro l
    induction l with
    | nil => simp
    | cons t r ih => rw [List.map_cons, List.sum_cons, List.length_cons]; have := (wgt_le h t).2; omega
  have h1 := key (l.take i)
  have h2 : (l.take i).length ≤ l.length := by rw [List.length_take]; omega
  unfold sumTo; omega
theorem wgt_some {σ : Nat → Option Fo} {t : TN} {n : Nat} {T : Fo} (h : t.var = (n : Int)) (h1 : σ n = some T) : wgt σ t = T.size := by
  unfold wgt; rw [h, Int.toNat_natCast, h1]
theorem wgt_none {σ : Nat → Option Fo} {t : TN} {n : Nat} (h : t.var = (n : Int)) (h1 : σ n = none) : wgt σ t = 1 := by
  unfold wgt; rw [h, Int.toNat_natCast, h1]
theorem node_nat {t : TN} (h : NodeR t) : ∃ n : Nat, t.var = (n : Int) := by
  rcases h with h | h
  · exact ⟨t.var.toNat, by have := h.1; omega⟩
  · exact ⟨0, h.1⟩
/-- a term is answered -/
def TermRes (w : World) (err : Int) (l : List TN) (e : Ending) (w' : World) : Prop :=
  ∃ v : Value, e = .returned (.tuple #[.agg #[v], .int .i64 err]) ∧ Below w.heap.size w w' ∧ IsRow 3 ETN w' (fun b => b < w'.heap.size) v l
/-- rows of nodes lie in no block that holds no number -/
theorem ints_avoid {w : World} {F : Nat → Prop} {A : Option Addr} {l : List Int} {g : Nat} (h : RowOf 1 EInt w F A l) (hg : ∀ off n, w.cell? ⟨g, off, none⟩ ≠ some (.int .i64 n)) : RowOf 1 EInt w (fun b => F b ∧ b ≠ g) A l := by
  refine ⟨fun hn => ?_, h.2⟩
  have h0 : 0 < l.length := by
    cases l with
    | nil => exact absurd rfl hn
    | cons _ _ => simp
  obtain ⟨b, off, e, hb, hc⟩ := ints_at h h0
  exact ⟨b, off, e, hb, fun e2 => hg off l[0] (by rw [← e2]; exact hc)⟩
theorem nodes_avoid {w : World} {F : Nat → Prop} {A : Option Addr} {l : List TN} {g : Nat} (h : RowOf 3 ETN w F A l) (hg : ∀ off n, w.cell? ⟨g, off, none⟩ ≠ some (.int .i64 n)) : RowOf 3 ETN w (fun b => F b ∧ b ≠ g) A l := by
  refine ⟨fun hn => ?_, fun i hi => ?_⟩
  · have h0 : 0 < l.length := by
      cases l with
      | nil => exact absurd rfl hn
      | cons _ _ => simp
    obtain ⟨b, off, _, _, e, hb, hc, _⟩ := nodes_at h h0
    exact ⟨b, off, e, hb, fun e2 => hg (off + 0 * 3) l[0].var (by rw [← e2]; exact hc)⟩
  · obtain ⟨cs, h1, ⟨v, e, A', c', e', h3, h4, h5⟩, h6⟩ := h.2 i hi
    exact ⟨cs, h1, ⟨v, e, A', c', e', h3, h4, ints_avoid h5 hg⟩, h6⟩
theorem slice_noint {w : World} {g : Nat} {t : TypeId} {A : Option Addr} {n c : Nat} (h : Blk w g t #[.slice A n c]) : ∀ off m, w.cell? ⟨g, off, none⟩ ≠ some (.int .i64 m) := by
  intro off m
  rw [h.cell off]
  cases off with
  | zero => simp
  | succ k => simp
end Go.Proofs.YtgcbnndbeoekgaaDoor
end
