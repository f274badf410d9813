/- pushes of a model with one more Next: plain -/
import Derived.Test.YtpjkifbicfcajaaPastK
set_option linter.unusedSimpArgs false
set_option linter.unusedVariables false
namespace Go.Proofs.Ytpjkifbicfcajaa
open Go Go.RowKit

/-- a model with another Next -/
def nx (m : AModel) (i : Nat) : AModel := ⟨m.next + i, m.nodes⟩
theorem nx_zero (m : AModel) : nx m 0 = m := by unfold nx; simp
theorem nx_ne {m : AModel} {i j : Nat} (h : i ≠ j) : nx m i ≠ nx m j := fun e => by
  have := congrArg AModel.next e
  simp only [nx] at this
  omega
theorem nx_check {m : AModel} (h : CheckM m) {i : Nat} (hi : m.next + i ≤ 1048577) : CheckM (nx m i) := by
  obtain ⟨⟨⟨h1, h2, h3⟩, h4⟩, h5, h6, h7, h8⟩ := h
  refine ⟨⟨⟨by show 1 ≤ m.next + i; omega, hi, h3⟩, fun k hk => ?_⟩, fun n hn => ?_, h6, h7, fun n hn => ?_⟩
  · obtain ⟨a, b, c⟩ := h4 k hk
    exact ⟨a, by show m.nodes[k].id < m.next + i; omega, c⟩
  · obtain ⟨a, b, c, d, e, f⟩ := h5 n hn
    refine ⟨a, b, c, d, e, fun k hk => ?_⟩
    obtain ⟨f1, f2, f3, f4⟩ := f k hk
    exact ⟨f1, f2, by show n.refs[k].target < m.next + i; omega, f4⟩
  · have : ∀ f n, Up m f n → Up (nx m i) f n := by
      intro f
      induction f with
      | zero => intro n h; exact h
      | succ f ih =>
        intro n h
        rcases h with h | ⟨x, hx, he, hu⟩
        · exact .inl h
        · exact .inr ⟨x, hx, he, ih x hu⟩
    exact this 64 n (h8 n hn)
open Classical in
theorem check_zero {m : AModel} (h : CheckM m) : checkI m = 0 := by unfold checkI; rw [decide_eq_true h]; rfl
theorem nx_all {m : AModel} (h : ModAll m) (h1 : 1 ≤ m.next) {i : Nat} (hi : m.next + i ≤ 1048577) : ModAll (nx m i) := ⟨h.1, ⟨by show -9223372036854775808 ≤ m.next + i; omega, by show m.next + i ≤ 9223372036854775807; omega⟩, h.2.2⟩
/-- behind i pushes -/
def Pn (m : AModel) (i : Nat) : APast := ⟨(List.range (min i 64)).map fun j => nx m (i - min i 64 + j), nx m i, []⟩
theorem Pn_zero (m : AModel) : Pn m 0 = ⟨[], m, []⟩ := by unfold Pn; simp [nx_zero]
theorem Pn_push {m : AModel} (h : CheckM m) {i : Nat} (hi : m.next + (i + 1 : Nat) ≤ 1048577) : pushP (Pn m i) (nx m (i + 1)) = (0, Pn m (i + 1)) := by
  unfold pushP
  rw [if_neg (by rw [check_zero (nx_check h hi)]; simp), if_neg (show nx m (i + 1) ≠ (Pn m i).here from nx_ne (by omega))]
  have hl : (Pn m i).ahead.length = min i 64 := by unfold Pn; simp
  rw [hl]
  have e : (if min i 64 + 1 > 64 then ((Pn m i).ahead ++ [(Pn m i).here]).tail else (Pn m i).ahead ++ [(Pn m i).here]) = (Pn m (i + 1)).ahead := by
    by_cases h64 : i < 64
    · rw [if_neg (by omega)]
      show ((List.range (min i 64)).map fun j => nx m (i - min i 64 + j)) ++ [nx m i] = (List.range (min (i + 1) 64)).map fun j => nx m (i + 1 - min (i + 1) 64 + j)
      rw [show min i 64 = i by omega, show min (i + 1) 64 = i + 1 by omega, List.range_succ, List.map_append]
      simp
    · rw [if_pos (by omega)]
      show (((List.range (min i 64)).map fun j => nx m (i - min i 64 + j)) ++ [nx m i]).tail = (List.range (min (i + 1) 64)).map fun j => nx m (i + 1 - min (i + 1) 64 + j)
      rw [show min i 64 = 64 by omega, show min (i + 1) 64 = 64 by omega]
      apply List.ext_getElem (by simp)
      intro k h1 h2
      have hk : k < 64 := by simpa using h2
      rw [List.getElem_tail, List.getElem_map, List.getElem_range]
      by_cases hk2 : k + 1 < 64
      · rw [List.getElem_append_left (by simpa using hk2), List.getElem_map, List.getElem_range]
        rw [show i - 64 + (k + 1) = i + 1 - 64 + k by omega]
      · rw [List.getElem_append_right (by simp; omega)]
        simp only [List.length_map, List.length_range, List.getElem_singleton]
        rw [show i + 1 - 64 + k = i by omega]
  rw [e]
  rfl
theorem Pn_fits (m : AModel) (i : Nat) : (Pn m i).Fits := by
  unfold APast.Fits
  rw [APast.list_len]
  unfold Pn
  simp
  omega
/-- of n pushes, t undone -/
def Ut (m : AModel) (n t : Nat) : APast := ⟨(List.range (min n 64 - t)).map fun j => nx m (n - min n 64 + j), nx m (n - t), (List.range t).map fun j => nx m (n - t + 1 + j)⟩
theorem Ut_zero (m : AModel) (n : Nat) : Ut m n 0 = Pn m n := by unfold Ut Pn; simp
theorem Ut_undo {m : AModel} {n t : Nat} (ht : t < min n 64) : undoP (Ut m n t) = (0, Ut m n (t + 1)) := by
  have e : (Ut m n t).ahead = (Ut m n (t + 1)).ahead ++ [nx m (n - (t + 1))] := by
    show ((List.range (min n 64 - t)).map fun j => nx m (n - min n 64 + j)) = ((List.range (min n 64 - (t + 1))).map fun j => nx m (n - min n 64 + j)) ++ [nx m (n - (t + 1))]
    rw [show min n 64 - t = (min n 64 - (t + 1)) + 1 by omega, List.range_succ, List.map_append]
    simp only [List.map_cons, List.map_nil]
    rw [show n - min n 64 + (min n 64 - (t + 1)) = n - (t + 1) by omega]
  have hb : (Ut m n t).here :: (Ut m n t).behind = (Ut m n (t + 1)).behind := by
    show nx m (n - t) :: ((List.range t).map fun j => nx m (n - t + 1 + j)) = (List.range (t + 1)).map fun j => nx m (n - (t + 1) + 1 + j)
    rw [List.range_succ_eq_map, List.map_cons, List.map_map]
    rw [show n - (t + 1) + 1 = n - t by omega]
    congr 1
    apply List.map_congr_left
    intro j _
    show nx m (n - t + 1 + j) = nx m (n - t + (j + 1))
    rw [show n - t + 1 + j = n - t + (j + 1) by omega]
  unfold undoP
  rw [e, List.getLast?_concat]
  simp only [List.dropLast_concat]
  rw [hb]
  rfl
theorem Ut_end {m : AModel} {n : Nat} : undoP (Ut m n (min n 64)) = (270, Ut m n (min n 64)) := by
  have e : (Ut m n (min n 64)).ahead = [] := by unfold Ut; simp
  unfold undoP
  rw [e]
  rfl
theorem Ut_fits {m : AModel} {n t : Nat} (ht : t ≤ min n 64) : (Ut m n t).Fits := by
  unfold APast.Fits
  rw [APast.list_len]
  unfold Ut
  simp
  omega
theorem Ut_all {m : AModel} {n t : Nat} (h : ModAll m) (h1 : 1 ≤ m.next) (hn : m.next + n ≤ 1000000) (ht : t ≤ min n 64) : ∀ x ∈ (Ut m n t).list, ModAll x := by
  intro x hx
  have hx : (∃ a, a < min n 64 - t ∧ nx m (n - min n 64 + a) = x) ∨ x = nx m (n - t) ∨ ∃ a, a < t ∧ nx m (n - t + 1 + a) = x := by
    simpa [Ut, APast.list] using hx
  rcases hx with ⟨a, ha, rfl⟩ | rfl | ⟨a, ha, rfl⟩ <;> exact nx_all h h1 (by omega)
theorem Pn_all {m : AModel} {i : Nat} (h : ModAll m) (h1 : 1 ≤ m.next) (hi : m.next + i ≤ 1000000) : ∀ x ∈ (Pn m i).list, ModAll x := by
  rw [← Ut_zero]; exact Ut_all h h1 hi (Nat.zero_le _)
theorem Ut_parts (m : AModel) (n t : Nat) : ∃ a b, Ut m n t = ⟨a, nx m (n - t), b⟩ := ⟨_, _, rfl⟩
end Go.Proofs.Ytpjkifbicfcajaa
