import Derived.Test.YtgcbnndbeoekgaaDoorProg
import Derived.Test.YtgcbnndbeoekgaaDoorNames
set_option linter.unusedSimpArgs false
set_option linter.unusedVariables false
namespace Go.Proofs.YtgcbnndbeoekgaaDoor
open Go Go.RowKit

theorem letter_any (x : Int) (w : World) : Calls Tryd.prog 38 #[.int .u8 x] w fun e w' => e = .returned (.bool (letterI x)) ∧ w = w' := by
  by_cases h1 : (65 : Int) ≤ x
  · by_cases h2 : x ≤ 90
    · have e : letterI x = true := by simp [letterI, h1, h2]
      rw [e]
      go_enter Tryd.func38, Tryd.ntmps38
      go_wp2; go_ret; exact ⟨by simp, rfl⟩
    · by_cases h3 : (97 : Int) ≤ x
      · by_cases h4 : x ≤ 122
        · have e : letterI x = true := by simp [letterI, h3, h4]
          rw [e]
          go_enter Tryd.func38, Tryd.ntmps38
          go_wp2; go_ret; exact ⟨by simp, rfl⟩
        · have e : letterI x = false := by simp [letterI, h2, h4]
          rw [e]
          go_enter Tryd.func38, Tryd.ntmps38
          go_wp2; go_ret; exact ⟨by simp [h2, h4], rfl⟩
      · have e : letterI x = false := by simp [letterI, h2, h3]
        rw [e]
        go_enter Tryd.func38, Tryd.ntmps38
        go_wp2; go_ret; exact ⟨by simp [h2, h3], rfl⟩
  · have h3 : ¬ (97 : Int) ≤ x := by omega
    have e : letterI x = false := by simp [letterI, h1, h3]
    rw [e]
    go_enter Tryd.func38, Tryd.ntmps38
    go_wp2; go_ret; exact ⟨by simp [h1, h3], rfl⟩

def NotIn (s : ByteArray) (x : Int) (k : Nat) : Prop := ∀ j (h : j < s.size), j < k → (s[j].toNat : Int) ≠ x
theorem NotIn.next {s : ByteArray} {x : Int} {k : Nat} (h : NotIn s x k) (hk : k < s.size) (hw : (s[k].toNat : Int) ≠ x) : NotIn s x (k + 1) := fun j hj hjk => by
  rcases Nat.lt_succ_iff_lt_or_eq.1 hjk with h' | rfl
  · exact h j hj h'
  · exact hw
theorem NotIn.yes {s : ByteArray} {x : Int} {k : Nat} (_ : NotIn s x k) (hk : k < s.size) (hw : (s[k].toNat : Int) = x) : (amongB x s.data.toList) = true :=
  List.any_eq_true.2 ⟨s[k], List.getElem_mem (l := s.data.toList) hk, beq_iff_eq.2 hw⟩
theorem NotIn.none {s : ByteArray} {x : Int} {k : Nat} (h : NotIn s x k) (hk : ¬ k < s.size) : (amongB x s.data.toList) = false :=
  List.any_eq_false.2 fun c hc => by
    obtain ⟨i, hi, rfl⟩ := List.getElem_of_mem hc
    have : i < s.size := hi
    exact fun e => h i this (by omega) (beq_iff_eq.1 e)
def AllW (s : ByteArray) (k : Nat) : Prop := ∀ j (h : j < s.size), j < k → wordB s[j] = true
theorem AllW.next {s : ByteArray} {k : Nat} (h : AllW s k) (hk : k < s.size) (hw : wordB s[k] = true) : AllW s (k + 1) := fun j hj hjk => by
  rcases Nat.lt_succ_iff_lt_or_eq.1 hjk with h' | rfl
  · exact h j hj h'
  · exact hw
theorem AllW.right {s : ByteArray} {k : Nat} (h : AllW s k) (hk : ¬ k < s.size) (h0 : 0 < s.size) (h1 : s.size ≤ 32) (h2 : letterI (s[0]'h0).toNat = true) : rightB s.data.toList = true :=
  rightB_of h0 h1 h2 fun i hi => h i hi (by have : s.data.toList.length = s.size := rfl; omega)

set_option maxHeartbeats 400000 in
theorem right_any (s : ByteArray) (w : World) (hs : s.size ≤ 9223372036854775807) : Calls Tryd.prog 23 #[.string s] w fun e w' => e = .returned (.bool (rightB s.data.toList)) ∧ w = w' := by
  by_cases h0 : s.size = 0
  · have e : rightB s.data.toList = false := by
      have : s.data.toList = [] := List.eq_nil_of_length_eq_zero h0
      rw [this]; rfl
    rw [e]
    go_enter Tryd.func23, Tryd.ntmps23
    go_wp2
    go_ret; exact ⟨rfl, rfl⟩
  · by_cases h1 : (32 : Int) < s.size
    · have e : rightB s.data.toList = false := rightB_long (by have : s.data.toList.length = s.size := rfl; omega)
      rw [e]
      go_enter Tryd.func23, Tryd.ntmps23
      go_wp2
      go_ret; exact ⟨rfl, rfl⟩
    · have hlen : s.data.toList.length = s.size := rfl
      have hp : 0 < s.size := by omega
      have hz : ((s.size : Int) == 0) = false := beq_eq_false_iff_ne.2 (by omega)
      by_cases h2 : letterI (s[0]'hp).toNat = true
      · go_enter Tryd.func23, Tryd.ntmps23
        go_wp2_with (go_at_call 38; refine (letter_any _ _).mono ?_; rintro e w' ⟨rfl, rfl⟩)
        have H2 := Lib.hid h2; clear h2
        go_loop [21] (fun i => ∃ k : Nat, k ≤ s.size ∧ i = .int .i64 k ∧ AllW s k) (fun i => s.size - (intOf i).toNat)
        case atStart => exact ⟨0, Nat.zero_le _, rfl, fun j hj h => absurd h (Nat.not_lt_zero _)⟩
        case round =>
          obtain ⟨k, hk, rfl, hall⟩ := hrel
          have HA := Lib.hid hall; clear hall
          by_cases hlt : k < s.size
          · by_cases hw : wordB s[k] = true
            · have HW := Lib.hid hw
              have hd : letterI s[k].toNat = true ∨ (letterI s[k].toNat = false ∧ (48 : Int) ≤ s[k].toNat ∧ (s[k].toNat : Int) ≤ 57) ∨ (letterI s[k].toNat = false ∧ (57 : Int) < s[k].toNat ∧ ((s[k].toNat : Int) == 95) = true) := by
                unfold wordB wordI figureI at hw
                cases hl : letterI s[k].toNat with
                | true => exact .inl rfl
                | false =>
                  simp only [hl, Bool.false_or, Bool.or_eq_true, Bool.and_eq_true, decide_eq_true_eq] at hw
                  rcases hw with hw | hw
                  · exact .inr (.inl ⟨rfl, hw.1, hw.2⟩)
                  · exact .inr (.inr ⟨rfl, by omega, by simp; omega⟩)
              clear hw
              rcases hd with hd | ⟨hd, hd1, hd2⟩ | ⟨hd, hd1, hd2⟩
              · go_wp2_with (go_at_call 38; refine (letter_any _ _).mono ?_; rintro e w' ⟨rfl, rfl⟩)
                go_round
                case rel => exact ⟨k + 1, by omega, by go_num, HA.out.next hlt HW.out⟩
                case measure => simp [intOf] <;> omega
              · go_wp2_with (go_at_call 38; refine (letter_any _ _).mono ?_; rintro e w' ⟨rfl, rfl⟩)
                go_round
                case rel => exact ⟨k + 1, by omega, by go_num, HA.out.next hlt HW.out⟩
                case measure => simp [intOf] <;> omega
              · go_wp2_with (go_at_call 38; refine (letter_any _ _).mono ?_; rintro e w' ⟨rfl, rfl⟩)
                go_round
                case rel => exact ⟨k + 1, by omega, by go_num, HA.out.next hlt HW.out⟩
                case measure => simp [intOf] <;> omega
            · have e : rightB s.data.toList = false := rightB_no (i := k) (by rw [hlen]; exact hlt) (Bool.eq_false_iff.2 hw)
              have E := Lib.hid e; clear e
              have hd : letterI s[k].toNat = false ∧ ¬ ((48 : Int) ≤ s[k].toNat ∧ (s[k].toNat : Int) ≤ 57) ∧ ¬ s[k].toNat = 95 := by
                unfold wordB wordI figureI at hw
                simp only [Bool.or_eq_true, Bool.and_eq_true, decide_eq_true_eq, not_or] at hw
                exact ⟨Bool.eq_false_iff.2 hw.1.1, hw.1.2, by omega⟩
              clear hw
              obtain ⟨hd, hd1, hd2⟩ := hd
              have hb : ((s[k].toNat : Int) == 95) = false := by simp; omega
              by_cases hd3 : (s[k].toNat : Int) < 48
              · clear hd1 hd2
                go_wp2_with (go_at_call 38; refine (letter_any _ _).mono ?_; rintro e w' ⟨rfl, rfl⟩)
                go_ret
                exact ⟨by rw [E.out]; rfl, rfl⟩
              · have hd4 : (57 : Int) < s[k].toNat := by omega
                clear hd1 hd2
                go_wp2_with (go_at_call 38; refine (letter_any _ _).mono ?_; rintro e w' ⟨rfl, rfl⟩)
                go_ret
                exact ⟨by rw [E.out]; rfl, rfl⟩
          · have e : rightB s.data.toList = true := HA.out.right hlt hp (by omega) H2.out
            have E := Lib.hid e; clear e
            go_wp2
            go_ret
            exact ⟨by rw [E.out]; rfl, rfl⟩
      · have h2' : letterI (s[0]'hp).toNat = false := by simpa using h2
        have e : rightB s.data.toList = false := rightB_head (by omega) h2'
        rw [e]
        clear h2
        go_enter Tryd.func23, Tryd.ntmps23
        go_wp2_with (go_at_call 38; refine (letter_any _ _).mono ?_; rintro e w' ⟨rfl, rfl⟩)
        go_ret; exact ⟨rfl, rfl⟩

end Go.Proofs.YtgcbnndbeoekgaaDoor
