import Derived.Test.YtgcbnndbeoekgaaWide
import Derived.Test.YtgcbnndbeoekgaaApplyP
set_option linter.unusedSimpArgs false
set_option linter.unusedVariables false
/- bounds and terms that are not wide -/
namespace Go.Proofs.Ytgcbnndbeoekgaa
open Go Go.RowKit Go.Maps

theorem flat_sum (b : List ABind) : (∀ x ∈ b, x.term.length ≤ (b.flatMap fun x => [x.term.length, 1]).sum) ∧ b.length ≤ (b.flatMap fun x => [x.term.length, 1]).sum := by
  induction b with
  | nil => exact ⟨(fun x h => by cases h), by simp⟩
  | cons y r ih =>
    rw [List.flatMap_cons, List.sum_append]
    have e : [y.term.length, 1].sum = y.term.length + 1 := by simp
    rw [e]
    refine ⟨fun x hx => ?_, by have := ih.2; simp only [List.length_cons]; omega⟩
    rcases List.mem_cons.1 hx with h | h
    · subst h; omega
    · have := ih.1 x h; omega
/-- a bound and terms that are not wide -/
theorem narrow {ns : List Nat} {b : List ABind} (h : ¬ 400 < (lensOf ns b).sum) : (∀ n ∈ ns, n ≤ 400) ∧ b.length ≤ 400 ∧ ∀ x ∈ b, x.term.length ≤ 400 := by
  unfold lensOf lensTo at h
  rw [List.sum_append] at h
  have h1 := flat_sum (b.take 1000)
  have h2 : (b.take 1000).length ≤ 400 := by have := h1.2; omega
  have h3 : b.length ≤ 400 := by rw [List.length_take] at h2; omega
  rw [List.take_of_length_le (by omega)] at h1 h
  have key : ∀ (ns : List Nat) n, n ∈ ns → n ≤ ns.sum := by
    intro ns
    induction ns with
    | nil => intro n hn; cases hn
    | cons y r ih =>
      intro n hn
      rw [List.sum_cons]
      rcases List.mem_cons.1 hn with e | e
      · omega
      · have := ih n e; omega
  exact ⟨fun n hn => by have := key ns n hn; omega, h3, fun x hx => by have := h1.1 x hx; omega⟩
theorem lens_le {ns : List Nat} {b : List ABind} {M : Nat} (h1 : ∀ n ∈ ns, n ≤ M) (hM : 1 ≤ M) (h2 : ∀ x ∈ b, x.term.length ≤ M) : ∀ n ∈ lensOf ns b, n ≤ M := by
  intro n hn
  unfold lensOf lensTo at hn
  rcases List.mem_append.1 hn with h | h
  · exact h1 n h
  · obtain ⟨x, hx, h⟩ := List.mem_flatMap.1 h
    have := h2 x (List.mem_of_mem_take hx)
    simp only [List.mem_cons, List.not_mem_nil, or_false] at h
    omega
theorem binds_avoid {w : World} {F : Nat → Prop} {A : Option Addr} {l : List ABind} {g : Nat} (h : RowOf 2 EBind w F A l) (hg : ∀ off n, w.cell? ⟨g, off, none⟩ ≠ some (.int .i64 n)) : RowOf 2 EBind w (fun b => F b ∧ b ≠ g) A l := by
  refine ⟨fun hn => ?_, fun i hi => ?_⟩
  · have h0 : 0 < l.length := by
      cases l with
      | nil => exact absurd rfl hn
      | cons _ _ => simp
    obtain ⟨b, off, _, _, e, hb, hc, _⟩ := bind_at h h0
    exact ⟨b, off, e, hb, fun e2 => hg (off + 0 * 2) l[0].hole (by rw [← e2]; exact hc)⟩
  · obtain ⟨cs, h1, ⟨v, e, A', c', e', h3, h4, h5⟩, h6⟩ := h.2 i hi
    exact ⟨cs, h1, ⟨v, e, A', c', e', h3, h4, nodes_avoid h5 hg⟩, h6⟩
end Go.Proofs.Ytgcbnndbeoekgaa
