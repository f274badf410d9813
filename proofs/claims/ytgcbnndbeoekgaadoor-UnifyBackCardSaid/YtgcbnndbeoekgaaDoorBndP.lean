import Derived.Test.YtgcbnndbeoekgaaDoorSubP
set_option linter.unusedSimpArgs false
set_option linter.unusedVariables false
/- what stands for a hole in a bound that may be, in plain Lean; texts of what stands in trees -/
namespace Go.Proofs.YtgcbnndbeoekgaaDoor
open Go Go.RowKit

def bindOf (p : Nat × Fo) : ABind := ⟨(p.1 : Int), p.2.flat 0⟩
theorem look_some : ∀ {bs : List (Nat × Fo)} {n : Nat} {T : Fo}, lookB bs n = some T → ∃ m, ∃ hm : m < (bs.map bindOf).length, (bs.map bindOf)[m] = ⟨(n : Int), T.flat 0⟩ ∧ ∀ j (hj : j < (bs.map bindOf).length), j < m → (bs.map bindOf)[j].hole ≠ (n : Int) := by
  intro bs
  induction bs with
  | nil => intro n T h; cases h
  | cons p r ih =>
    intro n T h
    by_cases e : p.1 = n
    · have hT : p.2 = T := by
        unfold lookB at h
        rw [List.find?_cons_of_pos (by simpa using e)] at h
        exact Option.some.inj h
      refine ⟨0, by simp, ?_, fun j _ hj => absurd hj (by omega)⟩
      simp [bindOf, e, hT]
    · have h2 : lookB r n = some T := by
        unfold lookB at h ⊢
        rw [List.find?_cons_of_neg (by simpa using e)] at h
        exact h
      obtain ⟨m, hm, h3, h4⟩ := ih h2
      refine ⟨m + 1, by simpa using hm, by simpa using h3, fun j hj hjm => ?_⟩
      cases j with
      | zero =>
        intro e2
        simp [bindOf] at e2
        exact e (by omega)
      | succ j => exact h4 j (by simpa using hj) (by omega)
theorem look_none {bs : List (Nat × Fo)} {n : Nat} (h : lookB bs n = none) : ∀ x ∈ bs.map bindOf, x.hole ≠ (n : Int) := by
  intro x hx e
  obtain ⟨p, hp, rfl⟩ := List.mem_map.1 hx
  unfold lookB at h
  rw [Option.map_eq_none_iff, List.find?_eq_none] at h
  exact h p hp (by have : (p.1 : Int) = n := e; simp; omega)
/-- a bound that may be, as trees -/
structure Bnd (b : List ABind) (bs : List (Nat × Fo)) : Prop where
  eq : b = bs.map bindOf
  ok : ∀ p ∈ bs, 1 ≤ p.1 ∧ p.2.one ∧ p.2.wf ∧ p.2.size ≤ 256
  zero : ∀ p ∈ bs, rightI (p.2.flat 0) = 0
theorem bnd_of {b : List ABind} (h : MayP b) : ∃ bs, Bnd b bs := by
  obtain ⟨bs, e, h1⟩ := may_trees h
  refine ⟨bs, e, h1, fun p hp => ?_⟩
  have : bindOf p ∈ b := by rw [e]; exact List.mem_map_of_mem hp
  obtain ⟨i, hi, h2⟩ := List.getElem_of_mem this
  have := (h.1 i hi).2.2.2
  rw [h2] at this
  exact this
section
variable {b : List ABind} {bs : List (Nat × Fo)} {σ : Nat → Option Fo}
theorem Bnd.ones (h : Bnd b bs) : Ones (lookB bs) := look_ones h.ok
theorem Bnd.some_ (h : Bnd b bs) {n : Nat} {T : Fo} (hl : lookB bs n = some T) : 1 ≤ n ∧ T.one ∧ T.wf ∧ T.size ≤ 256 ∧ rightI (T.flat 0) = 0 := by
  have := h.ok _ (lookB_mem hl)
  exact ⟨this.1, this.2.1, this.2.2.1, this.2.2.2, h.zero _ (lookB_mem hl)⟩
theorem Bnd.at_ (h : Bnd b bs) {n : Nat} {T : Fo} (hl : lookB bs n = some T) : ∃ m, ∃ hm : m < b.length, b[m].hole = (n : Int) ∧ b[m].term = T.flat 0 ∧ ∀ j (hj : j < b.length), j < m → b[j].hole ≠ (n : Int) := by
  obtain ⟨e, h1, h2⟩ := h
  subst e
  obtain ⟨m, hm, h3, h4⟩ := look_some hl
  exact ⟨m, hm, by rw [h3], by rw [h3], h4⟩
theorem Bnd.no (h : Bnd b bs) {n : Nat} (hl : lookB bs n = none) : ∀ x ∈ b, x.hole ≠ (n : Int) := by
  rw [h.eq]; exact look_none hl
theorem sub_size_part {A R : Fo} {l : List TN} {o k : Nat} {K : Fo} (h : Part l o K A R k) : (A.sub σ).size ≤ (K.sub σ).size := by
  rw [h.eq, Fo.sub_next, Fo.size_app2]; omega
theorem sub_size_in {A T r : Fo} {l : List TN} {o k : Nat} {K : Fo} (h : Part l o K (A.app2 T) r k) : (T.sub σ).size + (A.sub σ).size ≤ (K.sub σ).size := by
  rw [h.eq, Fo.sub_next, Fo.sub_next, Fo.size_app2, Fo.size_app2]; omega
end
end Go.Proofs.YtgcbnndbeoekgaaDoor
