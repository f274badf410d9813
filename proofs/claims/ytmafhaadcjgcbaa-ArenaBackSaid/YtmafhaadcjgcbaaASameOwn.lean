import Derived.Test.YtmafhaadcjgcbaaASame
set_option linter.unusedSimpArgs false
set_option linter.unusedVariables false
namespace Go.Proofs.Ytmafhaadcjgcbaa
open Go Go.RowKit

theorem eq_is {f : FuncId} {args : Array Value} {w : World} {p b : Bool} (h : p = b) (hc : Calls Try.prog f args w fun e w' => e = .returned (.bool p) ∧ ∃ n, w' = w.drewN n) : Calls Try.prog f args w fun e w' => e = .returned (.bool b) ∧ ∃ n, w' = w.drewN n := by
  rw [h] at hc; exact hc
open Classical in
theorem eqB_is {α : Type} {x y : α} {b : Bool} (h : eqB x y = b) : x = y ↔ b = true := by rw [← h]; exact (decide_eq_true_iff).symm
theorem node_ext {a b : ANode} (h1 : a.id = b.id) (h2 : a.concept = b.concept) (h3 : a.parent = b.parent) (h4 : a.role = b.role) (h5 : a.props = b.props) (h6 : a.kids = b.kids) (h7 : a.refs = b.refs) : a = b := by
  cases a; cases b; simp at h1 h2 h3 h4 h5 h6 h7; subst h1 h2 h3 h4 h5 h6 h7; rfl
theorem ba_beq {a b : ByteArray} {x : Bool} (h : (a.toList == b.toList) = x) : a = b ↔ x = true := by
  rw [← h, beq_iff_eq, ba_toList]

theorem model_ext {a b : AModel} (h1 : a.next = b.next) (h2 : a.nodes = b.nodes) : a = b := by
  cases a; cases b; simp at h1 h2; subst h1 h2; rfl
end Go.Proofs.Ytmafhaadcjgcbaa
