/- a number's figures, in plain Lean -/
import Derived.Test.YtpkapommekkbcaaDoorBase
set_option linter.unusedSimpArgs false
set_option linter.unusedVariables false
namespace Go.Proofs.YtpkapommekkbcaaDoor
open Go Go.RowKit

def digs (n : Nat) : List UInt8 := if n < 10 then [UInt8.ofNat (48 + n)] else digs (n / 10) ++ [UInt8.ofNat (48 + n % 10)]
theorem digs_small {n : Nat} (h : n < 10) : digs n = [UInt8.ofNat (48 + n)] := by rw [digs, if_pos h]
theorem digs_big {n : Nat} (h : ¬ n < 10) : digs n = digs (n / 10) ++ [UInt8.ofNat (48 + n % 10)] := by rw [digs, if_neg h]
theorem digs_len (k n : Nat) (h : n < 10 ^ (k + 1)) : (digs n).length ≤ k + 1 := by
  induction k generalizing n with
  | zero => rw [digs_small (by simpa using h)]; simp
  | succ k ih =>
    by_cases h1 : n < 10
    · rw [digs_small h1]; simp
    · rw [digs_big h1]
      have := ih (n / 10) (by rw [Nat.pow_succ] at h; omega)
      simp; omega
def byt (l : List UInt8) : ByteArray := ⟨l.toArray⟩
theorem byt_list (l : List UInt8) : (byt l).data.toList = l := rfl
theorem byt_size (l : List UInt8) : (byt l).size = l.length := rfl
theorem byt_app (a b : List UInt8) : byt a ++ byt b = byt (a ++ b) := by
  apply ByteArray.ext
  rw [ByteArray.data_append]
  show a.toArray ++ b.toArray = (a ++ b).toArray
  simp
theorem byt_of (s : ByteArray) : byt s.data.toList = s := rfl
theorem fig_cut : ∀ d : Fin 10, (⟨#[48, 49, 50, 51, 52, 53, 54, 55, 56, 57]⟩ : ByteArray).extract d.val (d.val + 1) = byt [UInt8.ofNat (48 + d.val)] := by decide +kernel
/-- figures that are still to come -/
def digz (m : Nat) : List UInt8 := if m = 0 then [] else digs m
theorem digz_step {m : Nat} (h : 0 < m) : digz m = digz (m / 10) ++ [UInt8.ofNat (48 + m % 10)] := by
  unfold digz
  rw [if_neg (by omega)]
  by_cases h1 : m < 10
  · rw [digs_small h1, if_pos (by omega), Nat.mod_eq_of_lt h1]; rfl
  · rw [digs_big h1, if_neg (by omega)]
end Go.Proofs.YtpkapommekkbcaaDoor
