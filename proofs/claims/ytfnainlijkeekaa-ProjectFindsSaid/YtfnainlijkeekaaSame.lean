import Derived.Test.YtfnainlijkeekaaProg
import Derived.Test.YtfnainlijkeekaaLines
namespace Go.Proofs.Ytfnainlijkeekaa
open Go Go.RowKit

set_option maxHeartbeats 400000 in
/-- Same of two readings of one list of lines: true -/
theorem same_yes (A C : Option Addr) (c c' : Nat) (l : List Line) (w : World) (F : Nat → Prop) (hF : ∀ b, F b → b < w.heap.size) (hl : l.length ≤ 9223372036854775807) (h : RowOf 2 ELine w F A l) (h' : RowOf 2 ELine w F C l) :
    Calls Try.prog 11 #[.slice A l.length c, .slice C l.length c'] w fun e w' => e = .returned (.bool true) ∧ Below w.heap.size w w' := by
  go_enter Try.func11, Try.ntmps11
  go_wp2
  go_loopw [5] (fun i wr => ∃ k : Nat, k ≤ l.length ∧ i = .int .i64 k ∧ ∃ n, wr = w.drewN n) (fun i _ => l.length - (intOf i).toNat)
  case atStart => exact ⟨0, Nat.zero_le _, rfl, 0, rfl⟩
  case round =>
    obtain ⟨k, hk, rfl, n, rfl⟩ := hrel
    by_cases hlt : k < l.length
    · obtain ⟨b, off, S, d, rfl, hb, h0, h1, hc1, hc2, hr⟩ := lines_at h hlt
      obtain ⟨b', off', S', d', rfl, hb', g0, g1, gc1, gc2, gr⟩ := lines_at h' hlt
      unfold maxLen at hc2 gc2
      go_wp2
      go_quiet (fail)
      go_wp2
      go_loopw [6] (fun i wr => ∃ j : Nat, j ≤ l[k].spots.length ∧ i = .int .i64 j ∧ ∃ n, wr = w.drewN n) (fun i _ => l[k].spots.length - (intOf i).toNat)
      case atStart => exact ⟨0, Nat.zero_le _, rfl, _, World.drewN_drewN w _ _⟩
      case round =>
        obtain ⟨j, hj, rfl, n, rfl⟩ := hrel
        by_cases hjt : j < l[k].spots.length
        · obtain ⟨p, o, rfl, hp, d0, d1, d2, d3, d4⟩ := spots_at hr hjt
          obtain ⟨p', o', rfl, hp', e0, e1, e2, e3, e4⟩ := spots_at gr hjt
          go_wp2
          go_quiet (fail)
          go_wp2
          go_roundw
          case rel => exact ⟨j + 1, by omega, by go_num, _, rfl⟩
          case measure => simp [intOf] <;> omega
        · go_wp2
          go_roundw
          case rel => exact ⟨k + 1, by omega, by go_num, _, rfl⟩
          case measure => simp [intOf] <;> omega
    · go_wp2
      go_ret
      exact ⟨rfl, below_drewN (Below.refl _ _) _⟩
end Go.Proofs.Ytfnainlijkeekaa
