import Derived.Test.YtgcbnndbeoekgaaDoorOutc
set_option linter.unusedSimpArgs false
set_option linter.unusedVariables false
/- a bound that may be is of the form; in plain Lean -/
namespace Go.Proofs.YtgcbnndbeoekgaaDoor
open Go Go.RowKit

theorem has_flat : ∀ (F : Fo) (o n : Nat), 1 ≤ n → F.has n → ∃ t ∈ F.flat o, t.var = (n : Int)
  | .nil, _, _, _, h => h.elim
  | .hole m r, o, n, hn, h => by
    rcases h with h | h
    · subst h; exact ⟨⟨m, ByteArray.empty, []⟩, List.mem_cons_self .., rfl⟩
    · obtain ⟨t, ht, e⟩ := has_flat r (o + 1) n hn h
      exact ⟨t, List.mem_cons_of_mem _ ht, e⟩
  | .app nm k r, o, n, hn, h => by
    rcases h with h | h
    · obtain ⟨t, ht, e⟩ := has_flat k (o + 1) n hn h
      exact ⟨t, List.mem_cons_of_mem _ (List.mem_append_left _ ht), e⟩
    · obtain ⟨t, ht, e⟩ := has_flat r (o + 1 + k.size) n hn h
      exact ⟨t, List.mem_cons_of_mem _ (List.mem_append_right _ ht), e⟩
theorem may_rise1 {b : List ABind} (h : ∀ i, BindAt b i) : ∀ i (hi : i < b.length) j (hj : j < i), (b[j]'(by omega)).hole < b[i].hole := by
  intro i
  induction i with
  | zero => intro _ j hj; omega
  | succ i ih =>
    intro hi j hj
    have h1 := (h (i + 1) hi).2.2.1 (by omega)
    simp only [Nat.add_sub_cancel] at h1
    by_cases e : j = i
    · subst e; exact h1
    · have := ih (by omega) j (by omega); omega
/-- what stands in a bound that may be -/
theorem nf_of_may {b : List ABind} {bs : List (Nat × Fo)} (h : MayP b) (hb : Bnd b bs) (he : b = bs.map bindOf) : NF bs := by
  have hin : ∀ q ∈ bs, (q.1 : Int) ∈ b.map ABind.hole := fun q hq => by
    rw [he, List.map_map]
    exact List.mem_map_of_mem (f := ABind.hole ∘ bindOf) hq
  have hmem : ∀ q ∈ bs, bindOf q ∈ b := fun q hq => by rw [he]; exact List.mem_map_of_mem hq
  refine ⟨?_, fun p hp => (hb.ok p hp).1, fun p hp => (hb.ok p hp).2.1, fun p hp q hq hh => ?_, fun p hp m e => ?_⟩
  · refine List.pairwise_iff_getElem.2 fun i j hi hj hij => ?_
    have h1 := may_rise1 h.1 j (by rw [he, List.length_map]; exact hj) i hij
    simp only [he, List.getElem_map, bindOf] at h1
    omega
  · obtain ⟨t, ht, e⟩ := has_flat p.2 0 q.1 (hb.ok q hq).1 hh
    exact (h.2 _ (hmem p hp)).2 t ht (by rw [e]; exact hin q hq)
  · have h1 := (h.2 _ (hmem p hp)).1
    have h2 := (h.2 _ (hmem p hp)).2
    have hf : (bindOf p).term = [⟨(m : Nat), ByteArray.empty, []⟩] := by show p.2.flat 0 = _; rw [e]; rfl
    have h3 := h1 ⟨(m : Nat), ByteArray.empty, []⟩ (by rw [hf]; rfl)
    have h4 := h2 ⟨(m : Nat), ByteArray.empty, []⟩ (by rw [hf]; exact List.mem_cons_self ..)
    have h3 : (m : Int) ≤ (p.1 : Int) := h3
    have hne : m ≠ p.1 := fun e2 => h4 (by show (m : Int) ∈ _; rw [e2]; exact hin p hp)
    omega
/-- more equations -/
theorem sat_more {θ : Nat → IT} {E F : List (Fo × Fo)} (h : Sat θ (E ++ F)) : Sat θ E := (Sat.app.1 h).1
end Go.Proofs.YtgcbnndbeoekgaaDoor
