import Derived.Test.YtgcbnndbeoekgaaDoorMachine
set_option linter.unusedSimpArgs false
set_option linter.unusedVariables false
namespace Go.Proofs.YtgcbnndbeoekgaaDoor
open Go Go.RowKit

def IsNum (l : List UInt8) (m : Nat) : Prop := l ≠ [] ∧ l.all figureB = true ∧ l.head? ≠ some 48 ∧ digitsVal l = m
theorem figure_range {c : UInt8} (h : figureB c = true) : 48 ≤ c.toNat ∧ c.toNat ≤ 57 := by
  simp only [figureB, figureI, Bool.and_eq_true, decide_eq_true_eq] at h; omega
theorem fold_ge : ∀ (r : List UInt8) (a : Nat), a * 10 ^ r.length ≤ r.foldl (fun n c => 10 * n + (c.toNat - 48)) a := by
  intro r
  induction r with
  | nil => intro a; simp
  | cons x r ih =>
    intro a
    have h := ih (10 * a + (x.toNat - 48))
    have h2 : a * 10 ^ (r.length + 1) ≤ (10 * a + (x.toNat - 48)) * 10 ^ r.length := by
      rw [Nat.pow_succ, ← Nat.mul_assoc, Nat.mul_right_comm]
      exact Nat.mul_le_mul_right _ (by omega)
    exact Nat.le_trans h2 h
theorem IsNum.len {l : List UInt8} {m : Nat} (h : IsNum l m) : 10 ^ (l.length - 1) ≤ m := by
  obtain ⟨h1, h2, h3, h4⟩ := h
  cases l with
  | nil => exact absurd rfl h1
  | cons c r =>
    simp only [List.all_cons, Bool.and_eq_true] at h2
    have hc := figure_range h2.1
    have hc1 : c.toNat ≠ 48 := fun e => h3 (by rw [show c = 48 from UInt8.toNat.inj e]; rfl)
    have hg := fold_ge r (10 * 0 + (c.toNat - 48))
    have e : digitsVal (c :: r) = r.foldl (fun n c => 10 * n + (c.toNat - 48)) (10 * 0 + (c.toNat - 48)) := rfl
    rw [← h4, e]
    refine Nat.le_trans ?_ hg
    show 10 ^ r.length ≤ _
    exact Nat.le_mul_of_pos_left _ (by omega)
theorem IsNum.short {l : List UInt8} {m k : Nat} (h : IsNum l m) (hm : m < 10 ^ k) : l.length ≤ k := by
  rcases Nat.lt_or_ge k l.length with h1 | h1
  · have h2 := h.len
    have h3 : 10 ^ k ≤ 10 ^ (l.length - 1) := Nat.pow_le_pow_right (by omega) (by omega)
    omega
  · exact h1
theorem IsNum.snoc {l : List UInt8} {m : Nat} (h : IsNum l m) {c : UInt8} (hc : figureB c = true) : IsNum (l ++ [c]) (10 * m + (c.toNat - 48)) := by
  obtain ⟨h1, h2, h3, h4⟩ := h
  refine ⟨by simp, by rw [List.all_append, h2]; simpa using hc, ?_, by rw [digitsVal_snoc, h4]⟩
  cases l with
  | nil => exact absurd rfl h1
  | cons x r => exact h3
theorem head45 {l : List UInt8} {m : Nat} (h : IsNum l m) : l.head? ≠ some 45 := by
  obtain ⟨h1, h2, _⟩ := h
  cases l with
  | nil => exact absurd rfl h1
  | cons c r =>
    simp only [List.all_cons, Bool.and_eq_true] at h2
    have hc := figure_range h2.1
    intro e
    simp at e
    subst e
    simp at hc
theorem IsNum.mag {l : List UInt8} {m : Nat} (h : IsNum l m) (hl : l.length ≤ 19) : magB l = some m := by
  obtain ⟨h1, h2, _, h4⟩ := h
  unfold magB
  rw [if_neg (by rw [h2]; rintro (h | h | h) <;> first | exact h1 (List.eq_nil_of_length_eq_zero h) | omega | cases h), h4]
theorem numB_of {l : List UInt8} {m : Nat} (h : IsNum l m) (hm : m ≤ 2147483647) : numB l = m := by
  have hl := h.short (k := 10) (by omega)
  have hi : intB l = some (m : Int) := by
    unfold intB
    rw [if_neg (head45 h), if_neg (fun e => h.2.2.1 e.1), h.mag (by omega)]
    show (if m ≤ _ then _ else _) = _
    rw [if_pos (by omega)]
  unfold numB; rw [hi]
  show (if 1 ≤ (m : Int) ∧ _ then _ else _) = _
  have := h.len
  have h1 : 1 ≤ m := Nat.le_trans (Nat.one_le_pow _ _ (by omega)) this
  rw [if_pos ⟨by omega, by omega⟩]
theorem numB_big {l : List UInt8} {m : Nat} (h : IsNum l m) (hm : 2147483647 < m) : numB l = 0 := by
  unfold numB intB
  rw [if_neg (head45 h), if_neg (fun e => h.2.2.1 e.1)]
  cases hg : magB l with
  | none => rfl
  | some n =>
    have e : n = m := by
      unfold magB at hg; split at hg
      · cases hg
      · cases hg; exact h.2.2.2
    subst e
    show holeOf (if n ≤ _ then _ else _) = _
    split
    · show (if 1 ≤ (n : Int) ∧ _ then _ else _) = _
      rw [if_neg (by omega)]
    · rfl
theorem numB_inv {l : List UInt8} (h : 0 < numB l) : ∃ m : Nat, IsNum l m ∧ m ≤ 2147483647 ∧ numB l = m := by
  unfold numB at h
  cases hi : intB l with
  | none => rw [hi] at h; exact absurd h (by decide)
  | some n =>
    rw [hi] at h
    have hn : 1 ≤ n ∧ n ≤ 2147483647 := by
      have h' : 0 < (if 1 ≤ n ∧ n ≤ 2147483647 then n else 0) := h
      split at h'
      · assumption
      · exact absurd h' (by decide)
    unfold intB at hi
    split at hi
    · split at hi
      · cases hi
      · split at hi
        · split at hi
          · cases hi; omega
          · cases hi
        · cases hi
    · rename_i h45
      split at hi
      · cases hi
      · rename_i h48
        split at hi
        · rename_i k hk
          split at hi
          · cases hi
            have hm : l.length ≠ 0 ∧ l.length ≤ 19 ∧ l.all figureB = true ∧ digitsVal l = k := by
              unfold magB at hk; split at hk
              · cases hk
              · rename_i hx; cases hk
                simp only [not_or] at hx
                exact ⟨hx.1, by omega, by simpa using hx.2.2, rfl⟩
            have hI : IsNum l k := by
              refine ⟨fun e => hm.1 (by rw [e]; rfl), hm.2.2.1, fun e => ?_, hm.2.2.2⟩
              have h1 : l.length = 1 := by
                rcases Nat.lt_or_ge 1 l.length with h2 | h2
                · exact absurd ⟨e, h2⟩ h48
                · omega
              have e0 : l = [48] := by
                cases l with
                | nil => cases e
                | cons c r =>
                  simp at e h1
                  rw [e, h1]
              rw [e0] at hm
              have := hm.2.2.2
              simp [digitsVal] at this
              omega
            exact ⟨k, hI, by omega, numB_of hI (by omega)⟩
          · cases hi
        · cases hi
theorem numB_nofig {l : List UInt8} {c : UInt8} (hc : figureB c = false) (hl : l = [] ∨ 0 < numB l) : numB (l ++ [c]) = 0 := by
  have key : ∀ m, ¬ IsNum (l ++ [c]) m := fun m h => by
    have := h.2.1
    rw [List.all_append] at this
    simp [hc] at this
  rcases Int.lt_or_le 0 (numB (l ++ [c])) with h | h
  · obtain ⟨m, hm, _⟩ := numB_inv h
    exact absurd hm (key m)
  · have h0 : 0 ≤ numB (l ++ [c]) := by
      unfold numB holeOf; split
      · split <;> omega
      · omega
    omega

/-- how far the digits of a hole have been read -/
def DigR (s : ByteArray) (i j m : Nat) : Prop := i + 1 ≤ j ∧ j ≤ s.size ∧ ((j = i + 1 ∧ m = 0) ∨ (i + 1 < j ∧ IsNum (cut s (i + 1) j) m ∧ m ≤ 2147483647)) ∧ ∀ k, i + 1 ≤ k → k < j → holeP s i k = true
theorem cut_snoc {s : ByteArray} {a b : Nat} (hab : a ≤ b) (hb : b < s.size) : cut s a (b + 1) = cut s a b ++ [s[b]] := by
  unfold cut
  rw [ByteArray.data_extract, ByteArray.data_extract, Array.toList_extract, Array.toList_extract, List.extract_eq_take_drop, List.extract_eq_take_drop]
  rw [show b + 1 - a = (b - a) + 1 by omega, List.take_succ_eq_append_getElem (by simp; have : s.data.size = s.size := rfl; omega)]
  rw [List.getElem_drop]
  have e : ∀ k (h : k < s.data.toList.length), k = b → s.data.toList[k] = s[b] := by rintro k h rfl; rfl
  rw [e _ _ (by omega)]
theorem cut_nil (s : ByteArray) (a : Nat) : cut s a a = [] := by
  unfold cut; rw [ByteArray.data_extract, Array.toList_extract, List.extract_eq_take_drop]; simp
theorem DigR.start {s : ByteArray} {i : Nat} (h : i < s.size) : DigR s i (i + 1) 0 := ⟨Nat.le_refl _, h, .inl ⟨rfl, rfl⟩, fun k h1 h2 => by omega⟩
theorem DigR.le {s : ByteArray} {i j m : Nat} (h : DigR s i j m) : m ≤ 2147483647 := by
  rcases h.2.2.1 with ⟨_, h⟩ | ⟨_, _, h⟩ <;> omega
/-- the number that one more digit makes -/
theorem DigR.num {s : ByteArray} {i j m : Nat} (h : DigR s i j m) (hj : j < s.size) (hf : figureB s[j] = true) (h0 : ¬ (m = 0 ∧ s[j].toNat = 48)) :
    IsNum (cut s (i + 1) (j + 1)) (10 * m + (s[j].toNat - 48)) := by
  rw [cut_snoc h.1 hj]
  rcases h.2.2.1 with ⟨rfl, rfl⟩ | ⟨_, hI, _⟩
  · rw [cut_nil]
    exact ⟨by simp, by simpa using hf, by intro e; simp at e; exact h0 ⟨rfl, by rw [e]; rfl⟩, by simp [digitsVal]⟩
  · exact hI.snoc hf
theorem DigR.next {s : ByteArray} {i j m : Nat} (h : DigR s i j m) (hj : j < s.size) (hf : figureB s[j] = true) (h0 : ¬ (m = 0 ∧ s[j].toNat = 48)) (hm : 10 * m + (s[j].toNat - 48) ≤ 2147483647) : DigR s i (j + 1) (10 * m + (s[j].toNat - 48)) := by
  have hI := h.num hj hf h0
  refine ⟨by have := h.1; omega, hj, .inr ⟨by have := h.1; omega, hI, hm⟩, fun k h1 h2 => ?_⟩
  rcases Nat.lt_succ_iff_lt_or_eq.1 h2 with h3 | rfl
  · exact h.2.2.2 k h1 h3
  · unfold holeP
    rw [decide_eq_true hj, numB_of hI hm]
    have := hI.len
    have h1 : 1 ≤ 10 * m + (s[k].toNat - 48) := Nat.le_trans (Nat.one_le_pow _ _ (by omega)) this
    simp only [Bool.true_and, decide_eq_true_eq]; omega
theorem DigR.stop {s : ByteArray} {i j m : Nat} (h : DigR s i j m) (hp : holeP s i j = false) : holeEnd s i = j :=
  ends_at _ _ _ h.1 (by have := h.2.1; omega) h.2.2.2 hp
theorem holeP_ge {s : ByteArray} {i j : Nat} (h : ¬ j < s.size) : holeP s i j = false := by unfold holeP; rw [decide_eq_false h]; rfl
theorem DigR.zero {s : ByteArray} {i j m : Nat} (h : DigR s i j m) (hj : j < s.size) (h0 : m = 0 ∧ s[j].toNat = 48) : holeP s i j = false := by
  unfold holeP
  rcases h.2.2.1 with ⟨rfl, rfl⟩ | ⟨_, hI, _⟩
  · rw [cut_snoc (Nat.le_refl _) hj, cut_nil, List.nil_append, show s[i + 1] = 48 from UInt8.toNat.inj h0.2, show numB [48] = 0 from by decide]; simp
  · have := hI.len
    have h1 : 1 ≤ m := Nat.le_trans (Nat.one_le_pow _ _ (by omega)) this
    omega
theorem DigR.big {s : ByteArray} {i j m : Nat} (h : DigR s i j m) (hj : j < s.size) (hf : figureB s[j] = true) (hm : 2147483647 < 10 * m + (s[j].toNat - 48)) : holeP s i j = false := by
  have hI := h.num hj hf (by rintro ⟨h1, h2⟩; omega)
  unfold holeP; rw [numB_big hI hm]; simp
theorem DigR.nofig {s : ByteArray} {i j m : Nat} (h : DigR s i j m) (hj : j < s.size) (hf : figureB s[j] = false) : holeP s i j = false := by
  unfold holeP
  rw [cut_snoc h.1 hj, numB_nofig hf ?_]
  · simp
  · rcases h.2.2.1 with ⟨rfl, _⟩ | ⟨_, hI, hm⟩
    · exact .inl (cut_nil _ _)
    · refine .inr ?_
      rw [numB_of hI hm]
      have := hI.len
      have h1 : 1 ≤ m := Nat.le_trans (Nat.one_le_pow _ _ (by omega)) this
      omega
end Go.Proofs.YtgcbnndbeoekgaaDoor
