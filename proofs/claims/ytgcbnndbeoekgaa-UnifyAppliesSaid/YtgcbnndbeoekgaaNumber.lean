import Derived.Test.YtgcbnndbeoekgaaIntBelow
import Derived.Test.YtgcbnndbeoekgaaMachine
set_option linter.unusedSimpArgs false
set_option linter.unusedVariables false
namespace Go.Proofs.Ytgcbnndbeoekgaa
open Go Go.RowKit

theorem refInt_any (s : ByteArray) (w : World) (hs : s.size ≤ 9223372036854775807) : Calls Try.prog 41 #[.string s] w (IntPost (intB s.data.toList) w) := by
  by_cases hp : 0 < s.size
  · cases h45 : ((s[0].toNat : Int) == 45) with
    | true => exact refInt_below s w hs hp h45
    | false => exact refInt_plain s w hs hp h45
  · have e : s.data.toList = [] := List.eq_nil_of_length_eq_zero (show s.size = 0 by omega)
    have hr : intB s.data.toList = none := by rw [e]; rfl
    have h0 : s.size = 0 := by omega
    clear hp e
    rw [hr]
    go_enter Try.func41, Try.ntmps41
    go_wp2
    go_ret2
    exact ⟨rfl, rfl⟩

theorem number_any (s : ByteArray) (w : World) (hs : s.size ≤ 9223372036854775807) : Calls Try.prog 24 #[.string s] w fun e w' => e = .returned (.int .i64 (numB s.data.toList)) ∧ w = w' := by
  unfold numB
  cases hr : intB s.data.toList with
  | none =>
    have HR := Lib.hid hr; clear hr
    go_enter Try.func24, Try.ntmps24
    go_wp2_with (go_at_call 41; refine (refInt_any s _ hs).mono ?_; rw [HR.out]; rintro e w' ⟨rfl, rfl⟩)
    go_ret
    exact ⟨rfl, rfl⟩
  | some n =>
    have HR := Lib.hid hr; clear hr
    by_cases h1 : n < 1
    · have hh := Lib.hid (show holeOf (some n) = 0 by show (if 1 ≤ n ∧ n ≤ 2147483647 then n else 0) = _; rw [if_neg (by omega)])
      go_enter Try.func24, Try.ntmps24
      go_wp2_with (go_at_call 41; refine (refInt_any s _ hs).mono ?_; rw [HR.out]; rintro e w' ⟨rfl, rfl⟩)
      go_ret
      exact ⟨by rw [hh.out]; rfl, rfl⟩
    · by_cases h2 : (2147483647 : Int) < n
      · have hh := Lib.hid (show holeOf (some n) = 0 by show (if 1 ≤ n ∧ n ≤ 2147483647 then n else 0) = _; rw [if_neg (by omega)])
        go_enter Try.func24, Try.ntmps24
        go_wp2_with (go_at_call 41; refine (refInt_any s _ hs).mono ?_; rw [HR.out]; rintro e w' ⟨rfl, rfl⟩)
        go_ret
        exact ⟨by rw [hh.out]; rfl, rfl⟩
      · have hh := Lib.hid (show holeOf (some n) = n by show (if 1 ≤ n ∧ n ≤ 2147483647 then n else 0) = _; rw [if_pos ⟨by omega, by omega⟩])
        go_enter Try.func24, Try.ntmps24
        go_wp2_with (go_at_call 41; refine (refInt_any s _ hs).mono ?_; rw [HR.out]; rintro e w' ⟨rfl, rfl⟩)
        go_ret
        exact ⟨by rw [hh.out]; rfl, rfl⟩
end Go.Proofs.Ytgcbnndbeoekgaa
