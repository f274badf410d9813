/- the document's close: what holds on the way through all pairs; in plain Lean -/
import Derived.Test.YtgcbnndbeoekgaaRWebQ
set_option linter.unusedSimpArgs false
set_option linter.unusedVariables false
namespace Go.Proofs.Ytgcbnndbeoekgaa
open Go Go.RowKit Go.Maps

structure CS (W : WebT) (E : List (Fo × Fo)) (ns : List TN) (cl0 : List Nat) (i k : Nat) (cl : List Nat) (more : Bool) : Prop where
  rw : RW W E ns cl
  meets : Meets W (rOf cl) E
  cr : CR ns.length cl0 cl more
  done : more = false → (∀ a b, b < a → a < i → CP W (rOf cl) a b) ∧ ∀ b, b < k → CP W (rOf cl) i b
section
variable {W : WebT} {E : List (Fo × Fo)} {ns : List TN} {cl0 cl : List Nat} {i k : Nat} {more : Bool}
theorem CS.start (h : RW W E ns cl) (hm : Meets W (rOf cl) E) : CS W E ns cl 0 0 cl false := ⟨h, hm, CR.start _ _, fun _ => ⟨fun a b _ h => absurd h (Nat.not_lt_zero _), fun b h => absurd h (Nat.not_lt_zero _)⟩⟩
theorem CS.nextRow (h : CS W E ns cl0 i k cl more) (hk : ¬ k < i) : CS W E ns cl0 (i + 1) 0 cl more := ⟨h.rw, h.meets, h.cr, fun hm => ⟨fun a b hb ha => by
  obtain ⟨h1, h2⟩ := h.done hm
  by_cases e : a < i
  · exact h1 a b hb e
  · have : a = i := by omega
    subst this
    exact h2 b (by omega), fun b h => absurd h (Nat.not_lt_zero _)⟩⟩
theorem CS.pass (h : CS W E ns cl0 i k cl more) (hp : more = false → CP W (rOf cl) i k) : CS W E ns cl0 i (k + 1) cl more := ⟨h.rw, h.meets, h.cr, fun hm => ⟨(h.done hm).1, fun b hb => by
  by_cases e : b < k
  · exact (h.done hm).2 b e
  · rw [show b = k by omega]; exact hp hm⟩⟩
theorem CS.join (h : CS W E ns cl0 i k cl more) {a b : Nat} (ha : a < ns.length) (hb : b < ns.length) (hv : ∀ θ, Sat θ E → W.val θ a = W.val θ b) : CS W E ns cl0 i k (joinC cl (rOf cl a) (rOf cl b)) (more || !decide (rOf cl a = rOf cl b)) := by
  refine ⟨h.rw.join ha hb hv, h.meets.joined (by rw [h.rw.n, h.rw.cn]) _ _, h.cr.join h.rw ha hb, fun hm => ?_⟩
  simp only [Bool.or_eq_false_iff, Bool.not_eq_eq_eq_not, Bool.not_false, decide_eq_true_eq] at hm
  rw [hm.2, joinC_same]
  exact h.done hm.1
/-- where nothing more has met, it was one already -/
theorem join_no {a b : Nat} (hm : (more || !decide (rOf cl a = rOf cl b)) = false) : more = false ∧ rOf cl a = rOf cl b ∧ joinC cl (rOf cl a) (rOf cl b) = cl := by
  simp only [Bool.or_eq_false_iff, Bool.not_eq_eq_eq_not, Bool.not_false, decide_eq_true_eq] at hm
  exact ⟨hm.1, hm.2, by rw [hm.2, joinC_same]⟩
/-- so many arguments of a pair have met -/
def ArgTo (W : WebT) (r : Nat → Nat) (xs ys : List Int) (j : Nat) : Prop := ∀ m, m < j → ∀ (h : m < xs.length) (h' : m < ys.length), r xs[m].toNat = r ys[m].toNat
theorem CP.of (h : RW W E ns cl) (hi : i < ns.length) (hk : k < ns.length) (hh : ∀ x, W.nd i = .hole x → W.nd k = .hole x → rOf cl i = rOf cl k)
    (ha : rOf cl i = rOf cl k → ns[i].var = 0 → ns[k].var = 0 → ns[i].args.length = ns[k].args.length → ArgTo W (rOf cl) ns[i].args ns[k].args ns[i].args.length) : CP W (rOf cl) i k := by
  refine ⟨hh, fun nm ks nm' ks' hr e1 e2 hl j a a' h1 h2 => ?_⟩
  obtain ⟨i1, _, i3⟩ := h.of_app hi e1
  obtain ⟨k1, _, k3⟩ := h.of_app hk e2
  subst i3; subst k3
  simp only [List.length_map] at hl
  rw [List.getElem?_map] at h1 h2
  have hj : j < ns[i].args.length := by
    rcases Nat.lt_or_ge j ns[i].args.length with h3 | h3
    · exact h3
    · rw [List.getElem?_eq_none h3] at h1; cases h1
  have hj' : j < ns[k].args.length := by omega
  rw [List.getElem?_eq_getElem hj] at h1
  rw [List.getElem?_eq_getElem hj'] at h2
  injection h1 with h1
  injection h2 with h2
  have := ha hr i1 k1 hl j hj hj hj'
  rw [← h1, ← h2]; exact this
theorem RW.argIn (h : RW W E ns cl) (hi : i < ns.length) {j : Nat} (hj : j < ns[i].args.length) : ∃ a : Nat, ns[i].args[j] = (a : Int) ∧ a < ns.length := by
  have := (h.node _ (List.getElem_mem hi)).args _ (List.getElem_mem hj)
  exact ⟨ns[i].args[j].toNat, by omega, by omega⟩
theorem RW.argVal (h : RW W E ns cl) (hi : i < ns.length) (hk : k < ns.length) (hr : rOf cl i = rOf cl k) (h1 : ns[i].var = 0) (h2 : ns[k].var = 0) {j a a' : Nat} (hj : j < ns[i].args.length) (hj' : j < ns[k].args.length) (ea : ns[i].args[j] = (a : Int)) (ea' : ns[k].args[j] = (a' : Int)) : ∀ θ, Sat θ E → W.val θ a = W.val θ a' :=
  h.argv hi hk hr (h.app_ hi h1) (h.app_ hk h2) (j := j) (by rw [List.getElem?_map, List.getElem?_eq_getElem hj, ea]; simp) (by rw [List.getElem?_map, List.getElem?_eq_getElem hj', ea']; simp)
end
end Go.Proofs.Ytgcbnndbeoekgaa
