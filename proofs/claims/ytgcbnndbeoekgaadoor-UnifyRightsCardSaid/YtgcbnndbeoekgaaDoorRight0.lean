/- which nodes are holes; both sides' Right -/
import Derived.Test.YtgcbnndbeoekgaaDoorOrdered
set_option linter.unusedSimpArgs false
set_option linter.unusedVariables false
namespace Go.Proofs.YtgcbnndbeoekgaaDoor
open Go Go.RowKit

def holeB (t : TN) : Bool := decide (1 ≤ t.var ∧ t.var ≤ 2147483647 ∧ t.name.size = 0 ∧ t.args.length = 0)
theorem holeB_iff {t : TN} : holeB t = true ↔ HoleN t := by unfold holeB HoleN; exact decide_eq_true_iff
theorem empty_of {s : ByteArray} (h : s.size = 0) : s = ⟨#[]⟩ := by
  cases s with
  | mk d => have : d.size = 0 := h; rw [Array.size_eq_zero_iff.1 this]
theorem nonempty_ne {s : ByteArray} (h : s.size ≠ 0) : ¬ s.toList = [] := by
  rw [ByteArray.toList_eq]
  intro e
  exact h (by have : s.data.toList.length = s.size := rfl; rw [e] at this; exact this.symm)
theorem nonempty_is {s : ByteArray} (h : s.size ≠ 0) : s.toList.isEmpty = false := by
  cases e : s.toList.isEmpty with
  | false => rfl
  | true => exact absurd (List.isEmpty_iff.1 e) (nonempty_ne h)

set_option maxRecDepth 100000 in
set_option maxHeartbeats 1000000 in
theorem rhole_any (x : Int) (y : ByteArray) (S : Option Addr) (la : List Int) (k : Nat) (w : World) (hk : k ≤ maxLen) (hl : la.length ≤ k) :
    Calls Tryd.prog 27 #[.agg #[.int .i64 x, .string y, .slice S la.length k]] w fun e w' => e = .returned (.bool (holeB ⟨x, y, la⟩)) ∧ Below w.heap.size w w' := by
  obtain ⟨n, hn⟩ : ∃ n, la.length = n := ⟨_, rfl⟩
  have HE : Hid (holeB ⟨x, y, la⟩ = decide (1 ≤ x ∧ x ≤ 2147483647 ∧ y.size = 0 ∧ n = 0)) := Lib.hid (by rw [← hn]; rfl)
  rw [hn] at hl ⊢
  obtain ⟨r, hr⟩ : ∃ r, holeB ⟨x, y, la⟩ = r := ⟨_, rfl⟩
  rw [hr] at HE ⊢
  clear hr hn
  unfold maxLen at hk
  have n0 : (0 : Int) ≤ n := by omega
  by_cases h1 : (1 : Int) ≤ x
  · by_cases h2 : x ≤ 2147483647
    · by_cases h3 : y.size = 0
      · obtain rfl := empty_of h3
        clear h3
        by_cases h4 : n = 0
        · subst h4
          have HR : Hid (r = true) := Lib.hid (by rw [HE.out]; simp [h1, h2]; rfl)
          clear HE
          go_enter Tryd.func27, Tryd.ntmps27
          go_wp2
          go_ret; exact ⟨by rw [HR.out]; rfl, (Below.refl _ _).alloc (Nat.le_refl _) _⟩
        · have HR : Hid (r = false) := Lib.hid (by rw [HE.out]; simp [h4])
          have e4 : ((n : Int) == 0) = false := by simp; exact h4
          have h4 : ¬ (n : Int) = 0 := by omega
          clear HE
          go_enter Tryd.func27, Tryd.ntmps27
          go_wp2
          go_ret; exact ⟨by rw [HR.out]; rfl, (Below.refl _ _).alloc (Nat.le_refl _) _⟩
      · have HR : Hid (r = false) := Lib.hid (by rw [HE.out]; simp [h3])
        have e3 := nonempty_is h3
        have e3' := nonempty_ne h3
        clear HE
        go_enter Tryd.func27, Tryd.ntmps27
        go_wp2
        go_ret; exact ⟨by rw [HR.out]; rfl, (Below.refl _ _).alloc (Nat.le_refl _) _⟩
    · have HR : Hid (r = false) := Lib.hid (by rw [HE.out]; simp [h2])
      clear HE
      go_enter Tryd.func27, Tryd.ntmps27
      go_wp2
      go_ret; exact ⟨by rw [HR.out]; rfl, (Below.refl _ _).alloc (Nat.le_refl _) _⟩
  · have HR : Hid (r = false) := Lib.hid (by rw [HE.out]; simp [h1])
    clear HE
    go_enter Tryd.func27, Tryd.ntmps27
    go_wp2
    go_ret; exact ⟨by rw [HR.out]; rfl, (Below.refl _ _).alloc (Nat.le_refl _) _⟩
end Go.Proofs.YtgcbnndbeoekgaaDoor
