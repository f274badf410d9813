import Derived.Test.YtfnainlijkeekaaProg
import Derived.Test.YtfnainlijkeekaaRefPlace
namespace Go.Proofs.Ytfnainlijkeekaa
open Go Go.RowKit

set_option maxHeartbeats 400000 in
theorem place_any (A : Option Addr) (c : Nat) (node : Int) (l : List Line) (w : World) (F : Nat → Prop) (hF : ∀ b, F b → b < w.heap.size) (hl : l.length ≤ 9223372036854775807) (h : RowOf 2 ELine w F A l) :
    Calls Try.prog 7 #[.slice A l.length c, .int .i64 node] w fun e w' => e = .returned (.tuple #[.int .i64 (placeFrom node 0 l).1, .int .i64 (placeFrom node 0 l).2.1, .bool (placeFrom node 0 l).2.2]) ∧ Below w.heap.size w w' := by
  go_enter Try.func7, Try.ntmps7
  go_wp2
  go_loopw [13] (fun i wr => ∃ k : Nat, k ≤ l.length ∧ i = .int .i64 k ∧ Below w.heap.size w wr ∧ placeFrom node 0 l = placeFrom node k (l.drop k)) (fun i _ => l.length - (intOf i).toNat)
  case atStart => exact ⟨0, Nat.zero_le _, rfl, Below.refl _ _, rfl⟩
  case round =>
    obtain ⟨k, hk, rfl, hbl, hp⟩ := hrel
    have Hp := Lib.hid hp; clear hp
    have hsz := hbl.size
    by_cases hlt : k < l.length
    · obtain ⟨b, off, S, c', rfl, hb, h0, h1, hc1, hc2, hr⟩ := lines_at h hlt
      unfold maxLen at hc2
      have hb := hF _ hb
      have h0 := (hbl.cell (by exact hb)).trans h0
      have h1 := (hbl.cell (by exact hb)).trans h1
      go_wp2
      go_loopw [21] (fun i wq => ∃ j : Nat, j ≤ l[k].spots.length ∧ i = .int .i64 j ∧ Below w.heap.size w wq ∧ placeSpots node l[k].spots = placeSpots node (l[k].spots.drop j)) (fun i _ => l[k].spots.length - (intOf i).toNat)
      case atStart => exact ⟨0, Nat.zero_le _, rfl, hbl.alloc hsz _, rfl⟩
      case round =>
        rename_i wq _
        obtain ⟨j, hj, rfl, hbq, hq⟩ := hrel
        have Hq := Lib.hid hq; clear hq
        have hsq := hbq.size
        by_cases hjt : j < l[k].spots.length
        · obtain ⟨b', off', rfl, hb', d0, d1, d2, d3, d4⟩ := spots_at hr hjt
          have hb' := hF _ hb'
          have d0 := (hbq.cell (by exact hb')).trans d0
          have d1 := (hbq.cell (by exact hb')).trans d1
          have d2 := (hbq.cell (by exact hb')).trans d2
          have d3 := (hbq.cell (by exact hb')).trans d3
          have d4 := (hbq.cell (by exact hb')).trans d4
          by_cases hn : l[k].spots[j].node = node
          · have hy := Lib.hid (refPlace_yes hlt hjt hn Hp.out Hq.out)
            have hn' : (l[k].spots[j].node == node) = true := by simpa using hn
            clear hn
            go_wp2
            go_quiet (fail)
            go_wp2
            go_ret3
            rw [hy.out]
            exact ⟨rfl, below_drewN (hbq.alloc hsq _) _⟩
          · have hn' : (l[k].spots[j].node == node) = false := by simpa using hn
            have hn := Lib.hid hn
            go_wp2
            go_roundw
            case rel => exact ⟨j + 1, by omega, by go_num, hbq.alloc hsq _, by rw [Hq.out, placeSpots_drop node _ hjt, if_neg hn.out]⟩
            case measure => simp [intOf]; omega
        · have hx := Lib.hid (refPlace_no hlt hjt Hp.out Hq.out)
          go_wp2
          go_roundw
          case rel => exact ⟨k + 1, by omega, by go_num, hbq, hx.out⟩
          case measure => simp [intOf]; omega
    · go_wp2
      go_ret3
      rw [Hp.out, placeFrom_end node l hlt]
      exact ⟨rfl, hbl⟩
end Go.Proofs.Ytfnainlijkeekaa
