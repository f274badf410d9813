import Derived.Test.YtpkapommekkbcaaDoorProg
import Derived.Test.YtpkapommekkbcaaDoorAPlain
import Derived.Test.YtpkapommekkbcaaDoorBase
import Derived.Laws.IdiomStrings
set_option linter.unusedSimpArgs false
set_option linter.unusedVariables false
namespace Go.Proofs.YtpkapommekkbcaaDoor
open Go Go.RowKit

/-- a text without the question mark ahead of it -/
def stripS (s : ByteArray) : ByteArray := if s.data.toList.head? = some 63 then s.extract 1 s.size else s
theorem stripS_list (s : ByteArray) : (stripS s).data.toList = strip s.data.toList := by
  unfold stripS strip
  split
  · rw [ByteArray.data_extract, Array.toList_extract, List.extract]
    show List.take (s.data.toList.length - 1) (List.drop 1 s.data.toList) = _
    rw [List.take_of_length_le (by simp)]
    simp
  · rfl
theorem stripS_size (s : ByteArray) : (stripS s).size ≤ s.size := by
  unfold stripS; split
  · rw [ByteArray.size_extract]; omega
  · exact Nat.le_refl _
theorem head_some {s : ByteArray} (h : 0 < s.size) : s.data.toList.head? = some s[0] := by
  have hl : 0 < s.data.toList.length := h
  rw [List.head?_eq_getElem?, List.getElem?_eq_getElem hl]; rfl
theorem aletter_any (x : Int) (w : World) : Calls Tryd.prog 58 #[.int .u8 x] w fun e w' => e = .returned (.bool (letterI x)) ∧ w = w' := by
  by_cases h1 : (65 : Int) ≤ x
  · by_cases h2 : x ≤ 90
    · have e : letterI x = true := by simp [letterI, h1, h2]
      rw [e]
      go_enter Tryd.func58, Tryd.ntmps58
      go_wp2; go_ret; exact ⟨by simp, rfl⟩
    · by_cases h3 : (97 : Int) ≤ x
      · by_cases h4 : x ≤ 122
        · have e : letterI x = true := by simp [letterI, h3, h4]
          rw [e]
          go_enter Tryd.func58, Tryd.ntmps58
          go_wp2; go_ret; exact ⟨by simp, rfl⟩
        · have e : letterI x = false := by simp [letterI, h2, h4]
          rw [e]
          go_enter Tryd.func58, Tryd.ntmps58
          go_wp2; go_ret; exact ⟨by simp [h2, h4], rfl⟩
      · have e : letterI x = false := by simp [letterI, h2, h3]
        rw [e]
        go_enter Tryd.func58, Tryd.ntmps58
        go_wp2; go_ret; exact ⟨by simp [h2, h3], rfl⟩
  · have h3 : ¬ (97 : Int) ≤ x := by omega
    have e : letterI x = false := by simp [letterI, h1, h3]
    rw [e]
    go_enter Tryd.func58, Tryd.ntmps58
    go_wp2; go_ret; exact ⟨by simp [h1, h3], rfl⟩

theorem cut1_eq {s : ByteArray} (h : 0 < s.size) : ((s.extract 0 1).toList == [63]) = (s[0] == 63) := by
  have e : (s.extract 0 1).toList = [s[0]] := by
    rw [ByteArray.toList_eq, ByteArray.data_extract, Array.toList_extract, List.extract]
    have hl : 0 < s.data.toList.length := h
    rw [List.drop_zero, List.take_one, List.head?_eq_getElem?, List.getElem?_eq_getElem hl]; rfl
  rw [e]
  by_cases e2 : s[0] = 63
  · rw [e2]; rfl
  · rw [beq_eq_false_iff_ne.2 e2]
    apply beq_eq_false_iff_ne.2
    intro e3; injection e3 with e3 _; exact e2 e3
theorem hasPrefix_any (s : ByteArray) (hs : s.size ≤ 9223372036854775807) (w : World) : Calls Tryd.prog 51 #[.string s, .string ⟨#[63]⟩] w fun e w' => e = .returned (.bool (s.data.toList.head? == some 63)) ∧ w = w' := by
  by_cases h : 0 < s.size
  · have e : (s.data.toList.head? == some 63) = (s[0] == 63) := by rw [head_some h]; rfl
    rw [e, ← cut1_eq h]
    obtain ⟨t, ht⟩ : ∃ t, s.extract 0 1 = t := ⟨_, rfl⟩
    rw [ht]
    have h1 : (1 : Int) ≤ s.size := by omega
    go_enter Tryd.func51, Tryd.ntmps51
    go_wp2
    go_ret
    exact ⟨by simp, rfl⟩
  · have e : (s.data.toList.head? == some 63) = false := by
      have : s.data.toList = [] := List.eq_nil_of_length_eq_zero (by have : s.data.toList.length = s.size := rfl; omega)
      rw [this]; rfl
    rw [e]
    have h1 : (s.size : Int) < 1 := by omega
    go_enter Tryd.func51, Tryd.ntmps51
    go_wp2
    go_ret
    exact ⟨rfl, rfl⟩
theorem trim0_any (s : ByteArray) (hs : s.size ≤ 9223372036854775807) (w : World) : Calls Tryd.prog 67 #[.string s, .string ⟨#[63]⟩] w fun e w' => e = .returned (.string (stripS s)) ∧ w = w' := by
  cases h : (s.data.toList.head? == some 63)
  · have e : stripS s = s := by unfold stripS; rw [if_neg (by simpa using h)]
    rw [e]
    go_enter Tryd.func67, Tryd.ntmps67
    go_wp2_with fail
    refine (hasPrefix_any s hs _).mono ?_
    rintro _ _ ⟨rfl, rfl⟩
    rw [h]
    go_wp2
    go_ret
    exact ⟨rfl, rfl⟩
  · have e : stripS s = s.extract 1 s.size := by unfold stripS; rw [if_pos (by simpa using h)]
    rw [e]
    have hp : 0 < s.size := by
      rcases Nat.eq_zero_or_pos s.size with h1 | h1
      · have : s.data.toList = [] := List.eq_nil_of_length_eq_zero h1
        rw [this] at h; cases h
      · exact h1
    obtain ⟨t, ht⟩ : ∃ t, s.extract 1 s.size = t := ⟨_, rfl⟩
    rw [ht]
    have h1 : (1 : Int) ≤ s.size := by omega
    go_enter Tryd.func67, Tryd.ntmps67
    go_wp2_with fail
    refine (hasPrefix_any s hs _).mono ?_
    rintro _ _ ⟨rfl, rfl⟩
    rw [h]
    go_wp2
    go_ret
    exact ⟨rfl, rfl⟩
theorem trim_any (s : ByteArray) (hs : s.size ≤ 9223372036854775807) (w : World) : Calls Tryd.prog 57 #[.string s, .string ⟨#[63]⟩] w fun e w' => e = .returned (.string (stripS s)) ∧ w = w' := by
  go_enter Tryd.func57, Tryd.ntmps57
  go_wp2_with fail
  refine (trim0_any s hs _).mono ?_
  rintro _ _ ⟨rfl, rfl⟩
  go_wp2
  go_ret
  exact ⟨rfl, rfl⟩
end Go.Proofs.YtpkapommekkbcaaDoor
