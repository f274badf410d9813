import Derived.Test.YtfnainlijkeekaaProg
import Derived.Test.YtfnainlijkeekaaFind
namespace Go.Proofs.Ytfnainlijkeekaa
open Go Go.RowKit

theorem rfind_tail {l : List Spot} {p : Spot → Bool} {j : Nat} (h : j < l.length) (hn : ∀ i, (hi : i < l.length) → j < i → p l[i] = false) (hp : p l[j] = true) : l.reverse.find? p = some l[j] := by
  have e : l.reverse = (l.drop (j + 1)).reverse ++ (l[j] :: (l.take j).reverse) := by
    conv => lhs; rw [← List.take_append_drop (j + 1) l]
    rw [List.reverse_append, List.take_succ_eq_append_getElem h, List.reverse_append]
    rfl
  have hz : (l.drop (j + 1)).reverse.find? p = none := by
    rw [List.find?_eq_none]
    intro x hx
    rw [List.mem_reverse] at hx
    obtain ⟨i, hi, rfl⟩ := List.getElem_of_mem hx
    rw [List.getElem_drop]
    rw [hn _ (by rw [List.length_drop] at hi; omega) (by omega)]
    simp
  rw [e, List.find?_append, hz, List.find?_cons_of_pos hp]; rfl
theorem rfind_none {l : List Spot} {p : Spot → Bool} (hn : ∀ i, (hi : i < l.length) → p l[i] = false) : l.reverse.find? p = none := by
  rw [List.find?_eq_none]
  intro x hx
  rw [List.mem_reverse] at hx
  obtain ⟨i, hi, rfl⟩ := List.getElem_of_mem hx
  rw [hn i hi]; simp

set_option maxHeartbeats 800000 in
theorem refFind_any (A : Option Addr) (c : Nat) (line col : Int) (l : List Line) (w : World) (F : Nat → Prop) (hF : ∀ b, F b → b < w.heap.size) (hl : l.length ≤ 9223372036854775807) (h : RowOf 2 ELine w F A l) :
    Calls Try.prog 6 #[.slice A l.length c, .int .i64 line, .int .i64 col] w (FindPost (findLine line col l) w) := by
  by_cases hlt : 0 ≤ line ∧ line < l.length
  · obtain ⟨h0, h1⟩ := hlt
    obtain ⟨k, rfl⟩ := Int.eq_ofNat_of_zero_le h0
    have hk : k < l.length := by omega
    have hr : findLine k col l = findSpots col l[k].spots := by unfold findLine; rw [dif_pos ⟨h0, h1⟩]; rfl
    rw [hr]; clear hr
    obtain ⟨b, off, S, c', rfl, hb, g0, g1, hc1, hc2, hS⟩ := lines_at h hk
    have hb := hF _ hb
    unfold maxLen at hc2
    go_enter Try.func6, Try.ntmps6
    go_wp2
    go_loop [9] (fun i => ∃ j : Nat, j ≤ l[k].spots.length ∧ i = .int .i64 j ∧ (l[k].spots.take j).find? (strictIn col) = none) (fun i => l[k].spots.length - (intOf i).toNat)
    case atStart => exact ⟨0, Nat.zero_le _, rfl, by simp⟩
    case round =>
      obtain ⟨j, hj, rfl, hno⟩ := hrel
      have hno := Lib.hid hno
      by_cases hjt : j < l[k].spots.length
      · obtain ⟨b', off', rfl, hb', d0, d1, d2, d3, d4⟩ := spots_at hS hjt
        have hb' := hF _ hb'
        by_cases t1 : l[k].spots[j].begin_ ≤ col
        · by_cases t2 : col < l[k].spots[j].end_
          · go_wp2
            have hx := Lib.hid (show findSpots col l[k].spots = some l[k].spots[j] by unfold findSpots; rw [find_snoc_some hjt hno.out (by simp [strictIn, t1, t2])])
            obtain ⟨r0, r1, r2, r3, r4⟩ := Spot.blk (s := l[k].spots[j]) (Blk.new w 28 _)
            simp only [Spot.arr] at r0 r1 r2 r3 r4
            rw [hx.out]
            exact bodyPost_ret (v := .tuple #[.agg l[k].spots[j].arr, .bool true]) (by simp [results, Try.results6, go_sem, Spot.arr, r0, r1, r2, r3, r4]) rfl ⟨rfl, (Below.refl _ _).alloc (Nat.le_refl _) _⟩
          · go_wp2
            go_round
            case rel => exact ⟨j + 1, by omega, by go_num, find_snoc_none hjt hno.out (by simp [strictIn, t2])⟩
            case measure => simp [intOf] <;> omega
        · have t1' : decide (l[k].spots[j].begin_ ≤ col) = false := by simpa using t1
          go_wp2
          go_round
          case rel => exact ⟨j + 1, by omega, by go_num, find_snoc_none hjt hno.out (by simp [strictIn, t1])⟩
          case measure => simp [intOf] <;> omega
      · go_wp2
        have hs : findSpots col l[k].spots = l[k].spots.reverse.find? (endsIn col) := by
          have e := hno.out; rw [List.take_of_length_le (by omega)] at e
          unfold findSpots; rw [e]
        have Hs := Lib.hid hs; clear hs
        go_loop [10] (fun i => ∃ x : Int, -1 ≤ x ∧ x < l[k].spots.length ∧ i = .int .i64 x ∧ ∀ q, (hq : q < l[k].spots.length) → x < (q : Int) → endsIn col l[k].spots[q] = false) (fun i => (intOf i + 1).toNat)
        case atStart => exact ⟨(l[k].spots.length : Int) - 1, by omega, by omega, rfl, fun q hq hm => by omega⟩
        case round =>
          obtain ⟨x, hx0, hx1, rfl, hnx⟩ := hrel
          have hnx := Lib.hid hnx
          by_cases hmt : 0 ≤ x
          · obtain ⟨p, rfl⟩ := Int.eq_ofNat_of_zero_le hmt
            have hpt : p < l[k].spots.length := by omega
            obtain ⟨b', off', rfl, hb', d0, d1, d2, d3, d4⟩ := spots_at hS hpt
            have hb' := hF _ hb'
            by_cases t1 : l[k].spots[p].begin_ ≤ col
            · by_cases t2 : l[k].spots[p].end_ = col
              · have t2' : (l[k].spots[p].end_ == col) = true := by simpa using t2
                have hx := Lib.hid (show findSpots col l[k].spots = some l[k].spots[p] from Hs.out.trans <| rfind_tail hpt (fun i hi hj => hnx.out i hi (by omega)) (by unfold endsIn; rw [decide_eq_true t1, decide_eq_true t2.symm]; rfl))
                clear t2
                go_wp2
                obtain ⟨r0, r1, r2, r3, r4⟩ := Spot.blk (s := l[k].spots[p]) (Blk.new w 28 _)
                simp only [Spot.arr] at r0 r1 r2 r3 r4
                rw [hx.out]
                exact bodyPost_ret (v := .tuple #[.agg l[k].spots[p].arr, .bool true]) (by simp [results, Try.results6, go_sem, Spot.arr, r0, r1, r2, r3, r4]) rfl ⟨rfl, (Below.refl _ _).alloc (Nat.le_refl _) _⟩
              · have t2' : (l[k].spots[p].end_ == col) = false := by simpa using t2
                have t2 := Lib.hid t2
                go_wp2
                go_round
                case rel => exact ⟨(p : Int) - 1, by omega, by omega, rfl, fun q hq hm => by
                  by_cases e : q = p
                  · subst e; simp [endsIn]; intro _ e; exact t2.out e.symm
                  · exact hnx.out q hq (by omega)⟩
                case measure => simp [intOf] <;> omega
            · go_wp2
              go_round
              case rel => exact ⟨(p : Int) - 1, by omega, by omega, rfl, fun q hq hm => by
                by_cases e : q = p
                · subst e; simp [endsIn, t1]
                · exact hnx.out q hq (by omega)⟩
              case measure => simp [intOf] <;> omega
          · obtain rfl : x = -1 := by omega
            go_wp2
            rw [Hs.out, rfind_none (fun i hi => hnx.out i hi (by omega))]
            exact bodyPost_ret (v := .tuple #[.agg Spot.zero.arr, .bool false]) (by simp [results, Try.results6, go_sem, Spot.zero_arr]) rfl ⟨rfl, (Below.refl _ _).alloc (Nat.le_refl _) _⟩
  · have hr : findLine line col l = none := by unfold findLine; rw [dif_neg hlt]
    rw [hr]
    by_cases h0 : line < 0
    · go_enter Try.func6, Try.ntmps6
      go_wp2
      exact bodyPost_ret (v := .tuple #[.agg Spot.zero.arr, .bool false]) (by simp [results, Try.results6, go_sem, Spot.zero_arr]) rfl ⟨rfl, (Below.refl _ _).alloc (Nat.le_refl _) _⟩
    · have h1 : (l.length : Int) ≤ line := by omega
      go_enter Try.func6, Try.ntmps6
      go_wp2
      exact bodyPost_ret (v := .tuple #[.agg Spot.zero.arr, .bool false]) (by simp [results, Try.results6, go_sem, Spot.zero_arr]) rfl ⟨rfl, (Below.refl _ _).alloc (Nat.le_refl _) _⟩
end Go.Proofs.Ytfnainlijkeekaa
