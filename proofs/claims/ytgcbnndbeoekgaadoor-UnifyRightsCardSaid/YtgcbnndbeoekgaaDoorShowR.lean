/- a number's figures, as the document shows them -/
import Derived.Test.YtgcbnndbeoekgaaDoorRightR
set_option linter.unusedSimpArgs false
set_option linter.unusedVariables false
namespace Go.Proofs.YtgcbnndbeoekgaaDoor
open Go Go.RowKit

def byt (l : List UInt8) : ByteArray := ⟨l.toArray⟩
theorem byt_app (a b : List UInt8) : byt a ++ byt b = byt (a ++ b) := by
  apply ByteArray.ext
  rw [ByteArray.data_append]
  show a.toArray ++ b.toArray = (a ++ b).toArray
  simp
theorem byt_of (s : ByteArray) : byt s.data.toList = s := rfl
theorem fig_cut : ∀ d : Fin 10, (⟨#[48, 49, 50, 51, 52, 53, 54, 55, 56, 57]⟩ : ByteArray).extract d.val (d.val + 1) = byt [UInt8.ofNat (48 + d.val)] := by decide +kernel
/-- figures that are still to come -/
def digz (m : Nat) : List UInt8 := if m = 0 then [] else digs m
theorem digz_step {m : Nat} (h : 0 < m) : digz m = digz (m / 10) ++ [UInt8.ofNat (48 + m % 10)] := by
  unfold digz
  rw [if_neg (by omega)]
  by_cases h1 : m < 10
  · rw [digs_small h1, if_pos (by omega), Nat.mod_eq_of_lt h1]; rfl
  · rw [digs_big h1, if_neg (by omega)]

set_option maxRecDepth 100000 in
set_option maxHeartbeats 1000000 in
theorem rshow_any (n : Nat) (h1 : 1 ≤ n) (h2 : n ≤ 2147483647) (w : World) : Calls Tryd.prog 43 #[.int .i64 n] w fun e w' => e = .returned (.string (byt (digs n))) ∧ w = w' := by
  have n1 : (1 : Int) ≤ n := by omega
  have n2 : (n : Int) ≤ 2147483647 := by omega
  have e0 : ((n : Int) == 0) = false := beq_eq_false_iff_ne.2 (by omega)
  have HD : Hid (digz n = digs n) := Lib.hid (if_neg (by omega))
  have HL : Hid ((digs n).length ≤ 10) := Lib.hid (digs_len 9 n (by omega))
  go_enter Tryd.func43, Tryd.ntmps43
  go_wp2
  go_loopg [3, 5] n (fun g s3 s5 wx => ∃ (m : Nat) (acc : List UInt8), s3 = .int .u64 m ∧ s5 = .string (byt acc) ∧ g = m ∧ m ≤ n ∧ digs n = digz m ++ acc ∧ w = wx)
  case atStart => exact ⟨n, [], by rfl, rfl, rfl, Nat.le_refl _, by rw [HD.out, List.append_nil], rfl⟩
  case round =>
    obtain ⟨m, acc, rfl, rfl, hg, hm, hd, rfl⟩ := hrel
    have HDD := Lib.hid hd
    have hal : acc.length ≤ 10 := by have h3 := HL.out; rw [hd, List.length_append] at h3; omega
    have hsz : (byt acc).size ≤ 10 := hal
    have hg := hg.symm
    subst hg
    clear hd
    have m0 : (0 : Int) ≤ m := by omega
    have m3 : (m : Int) ≤ 2147483647 := by omega
    by_cases hp : 0 < m
    · have HS := Lib.hid (digz_step hp)
      have HC : Hid ((⟨#[48, 49, 50, 51, 52, 53, 54, 55, 56, 57]⟩ : ByteArray).extract (m % 10) (m % 10 + 1) ++ byt acc = byt (UInt8.ofNat (48 + m % 10) :: acc)) := Lib.hid (by
        have := fig_cut ⟨m % 10, by omega⟩
        simp only at this
        rw [this, byt_app]; rfl)
      go_wp2
      go_roundg (m / 10)
      case measure => omega
      case rel => exact ⟨m / 10, UInt8.ofNat (48 + m % 10) :: acc, by go_num, by rw [HC.out], rfl, by omega, by rw [HDD.out, HS.out]; simp, rfl⟩
    · have HZ : Hid ((⟨#[]⟩ : ByteArray) ++ byt acc = byt (digs n)) := Lib.hid (by rw [HDD.out, show m = 0 by omega]; exact byt_app [] acc)
      go_wp2
      go_ret
      exact ⟨by rw [← HZ.out]; rfl, rfl⟩
end Go.Proofs.YtgcbnndbeoekgaaDoor
