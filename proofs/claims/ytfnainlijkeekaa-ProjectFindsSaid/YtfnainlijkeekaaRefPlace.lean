import Derived.Test.YtfnainlijkeekaaProg
import Derived.Test.YtfnainlijkeekaaLines
namespace Go.Proofs.Ytfnainlijkeekaa
open Go Go.RowKit

theorem placeFrom_drop (node : Int) (l : List Line) {k : Nat} (h : k < l.length) :
    placeFrom node k (l.drop k) = match placeSpots node l[k].spots with | some b => ((k : Int), b, true) | none => placeFrom node (k + 1) (l.drop (k + 1)) := by
  rw [List.drop_eq_getElem_cons h]; rfl
theorem placeSpots_drop (node : Int) (l : List Spot) {k : Nat} (h : k < l.length) :
    placeSpots node (l.drop k) = if l[k].node = node then some l[k].begin_ else placeSpots node (l.drop (k + 1)) := by
  rw [List.drop_eq_getElem_cons h]; rfl
theorem placeFrom_end (node : Int) (l : List Line) {k : Nat} (h : ¬ k < l.length) : placeFrom node k (l.drop k) = (0, 0, false) := by
  rw [List.drop_of_length_le (by omega)]; rfl

theorem refPlace_no {node : Int} {l : List Line} {k j : Nat} (h : k < l.length) (hj : ¬ j < l[k].spots.length) (hp : placeFrom node 0 l = placeFrom node k (l.drop k)) (hq : placeSpots node l[k].spots = placeSpots node (l[k].spots.drop j)) :
    placeFrom node 0 l = placeFrom node (k + 1) (l.drop (k + 1)) := by
  rw [hp, placeFrom_drop node l h, hq, List.drop_of_length_le (by omega)]; rfl
theorem refPlace_yes {node : Int} {l : List Line} {k j : Nat} (h : k < l.length) (hj : j < l[k].spots.length) (hn : l[k].spots[j].node = node) (hp : placeFrom node 0 l = placeFrom node k (l.drop k)) (hq : placeSpots node l[k].spots = placeSpots node (l[k].spots.drop j)) :
    placeFrom node 0 l = ((k : Int), l[k].spots[j].begin_, true) := by
  rw [hp, placeFrom_drop node l h, hq, placeSpots_drop node _ hj, if_pos hn]

set_option maxHeartbeats 400000 in
theorem refPlace_any (A : Option Addr) (c : Nat) (node : Int) (l : List Line) (w : World) (F : Nat → Prop) (hl : l.length ≤ 9223372036854775807) (h : RowOf 2 ELine w F A l) :
    Calls Try.prog 8 #[.slice A l.length c, .int .i64 node] w fun e w' => e = .returned (.tuple #[.int .i64 (placeFrom node 0 l).1, .int .i64 (placeFrom node 0 l).2.1, .bool (placeFrom node 0 l).2.2]) ∧ Below w.heap.size w w' := by
  go_enter Try.func8, Try.ntmps8
  go_wp2
  go_loop [7] (fun i => ∃ k : Nat, k ≤ l.length ∧ i = .int .i64 k ∧ placeFrom node 0 l = placeFrom node k (l.drop k)) (fun i => l.length - (intOf i).toNat)
  case atStart => exact ⟨0, Nat.zero_le _, rfl, rfl⟩
  case round =>
    obtain ⟨k, hk, rfl, hp⟩ := hrel
    have Hp := Lib.hid hp; clear hp
    by_cases hlt : k < l.length
    · obtain ⟨b, off, S, c', rfl, hb, h0, h1, hc1, hc2, hr⟩ := lines_at h hlt
      unfold maxLen at hc2
      go_wp2
      go_loop [8] (fun i => ∃ j : Nat, j ≤ l[k].spots.length ∧ i = .int .i64 j ∧ placeSpots node l[k].spots = placeSpots node (l[k].spots.drop j)) (fun i => l[k].spots.length - (intOf i).toNat)
      case atStart => exact ⟨0, Nat.zero_le _, rfl, rfl⟩
      case round =>
        obtain ⟨j, hj, rfl, hq⟩ := hrel
        have Hq := Lib.hid hq; clear hq
        by_cases hjt : j < l[k].spots.length
        · obtain ⟨b', off', rfl, hb', g0, g1, g2, g3, g4⟩ := spots_at hr hjt
          by_cases hn : l[k].spots[j].node = node
          · have hy := Lib.hid (refPlace_yes hlt hjt hn Hp.out Hq.out)
            have hn' : (l[k].spots[j].node == node) = true := by simpa using hn
            clear hn
            go_wp2
            go_quiet (fail)
            go_wp2
            go_ret3
            rw [hy.out]
            exact ⟨rfl, below_drewN (Below.refl _ _) _⟩
          · have hn' : (l[k].spots[j].node == node) = false := by simpa using hn
            go_wp2
            go_round
            case rel => exact ⟨j + 1, by omega, by go_num, by rw [Hq.out, placeSpots_drop node _ hjt, if_neg hn]⟩
            case measure => simp [intOf]; omega
        · have hx := Lib.hid (refPlace_no hlt hjt Hp.out Hq.out)
          go_wp2
          go_round
          case rel => exact ⟨k + 1, by omega, by go_num, hx.out⟩
          case measure => simp [intOf]; omega
    · go_wp2
      go_ret3
      rw [Hp.out, placeFrom_end node l hlt]
      exact ⟨rfl, Below.refl _ _⟩
end Go.Proofs.Ytfnainlijkeekaa
