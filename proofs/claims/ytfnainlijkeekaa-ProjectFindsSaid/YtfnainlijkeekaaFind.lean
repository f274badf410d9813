import Derived.Test.YtfnainlijkeekaaProg
import Derived.Test.YtfnainlijkeekaaLines
namespace Go.Proofs.Ytfnainlijkeekaa
open Go Go.RowKit

def FindPost (r : Option Spot) (w : World) (e : Ending) (w' : World) : Prop := e = .returned (.tuple #[.agg (r.getD Spot.zero).arr, .bool r.isSome]) ∧ Below w.heap.size w w'

/-- what holds at the head of the loop over a line's spots -/
def FRel (l : List Spot) (col : Int) (w : World) (j : Nat) (f : Value) (wr : World) : Prop :=
  (l.take j).find? (strictIn col) = none ∧ f = .bool ((l.take j).reverse.find? (endsIn col)).isSome ∧ Blk wr w.heap.size 28 Spot.zero.arr ∧ Blk wr (w.heap.size + 1) 28 (((l.take j).reverse.find? (endsIn col)).getD Spot.zero).arr ∧ Below w.heap.size w wr
theorem FRel.start (l : List Spot) (col : Int) (w : World) : FRel l col w 0 (.bool false) ((w.alloc (.cells #[.int .i64 0, .int .i64 0, .string { data := #[] }, .int .i64 0, .int .i64 0] 28)).alloc (.cells #[.int .i64 0, .int .i64 0, .string { data := #[] }, .int .i64 0, .int .i64 0] 28)) := by
  exact ⟨by simp, by simp, (Blk.new w _ _).alloc _, Blk.new' (by simp), ((Below.refl _ _).alloc (Nat.le_refl _) _).alloc (by simp) _⟩

theorem find_snoc_none {l : List Spot} {p : Spot → Bool} {j : Nat} (h : j < l.length) (hn : (l.take j).find? p = none) (hp : p l[j] = false) : (l.take (j + 1)).find? p = none := by
  rw [List.take_succ_eq_append_getElem h, List.find?_append, hn]; simp [hp]
theorem find_snoc_some {l : List Spot} {p : Spot → Bool} {j : Nat} (h : j < l.length) (hn : (l.take j).find? p = none) (hp : p l[j] = true) : l.find? p = some l[j] := by
  conv => lhs; rw [← List.take_append_drop j l]
  rw [List.find?_append, hn, List.drop_eq_getElem_cons h, List.find?_cons_of_pos hp]; rfl
theorem rfind_snoc (l : List Spot) (p : Spot → Bool) {j : Nat} (h : j < l.length) : (l.take (j + 1)).reverse.find? p = if p l[j] then some l[j] else (l.take j).reverse.find? p := by
  rw [List.take_succ_eq_append_getElem h, List.reverse_append]
  simp [List.find?_cons]; split <;> simp_all

theorem FRel.yes {l : List Spot} {col : Int} {w wr : World} {j : Nat} {s : Spot} (hjt : j < l.length) (hno : (l.take j).find? (strictIn col) = none) (B0 : Blk wr w.heap.size 28 Spot.zero.arr) (B1 : Blk wr (w.heap.size + 1) 28 s.arr) (hbl : Below w.heap.size w wr)
    (t1 : l[j].begin_ ≤ col) (t2 : ¬ col < l[j].end_) (t3 : col = l[j].end_) (o : Obj) :
    FRel l col w (j + 1) (.bool true) ((((((wr.setCell ⟨w.heap.size + 1, 0, none⟩ (.int .i64 l[j].node)).setCell ⟨w.heap.size + 1, 1, none⟩ (.int .i64 l[j].kind)).setCell ⟨w.heap.size + 1, 2, none⟩ (.string l[j].name)).setCell ⟨w.heap.size + 1, 3, none⟩ (.int .i64 l[j].begin_)).setCell ⟨w.heap.size + 1, 4, none⟩ (.int .i64 l[j].end_)).alloc o) := by
  have he : endsIn col l[j] = true := by unfold endsIn; rw [decide_eq_true t1, decide_eq_true t3]; rfl
  have hb1 := B0.lt
  refine ⟨find_snoc_none hjt hno (by simp [strictIn, t2]), by rw [rfind_snoc _ _ hjt, if_pos he]; rfl, (B0.far5 (by omega)).alloc _, ?_, (below_set5 hbl (by omega)).alloc (by simp; omega) _⟩
  rw [rfind_snoc _ _ hjt, if_pos he]
  exact B1.store5.alloc _
theorem FRel.no {l : List Spot} {col : Int} {w wr : World} {j : Nat} {f : Value} (hjt : j < l.length) (h : FRel l col w j f wr) (t1 : strictIn col l[j] = false) (t3 : endsIn col l[j] = false) (o : Obj) : FRel l col w (j + 1) f (wr.alloc o) := by
  obtain ⟨hno, rfl, B0, B1, hbl⟩ := h
  have e := rfind_snoc l (endsIn col) hjt
  rw [if_neg (by simp [t3])] at e
  exact ⟨find_snoc_none hjt hno t1, by rw [e], B0.alloc _, by rw [e]; exact B1.alloc _, hbl.alloc (by have := B0.lt; omega) _⟩

set_option maxHeartbeats 400000 in
theorem find_any (A : Option Addr) (c : Nat) (line col : Int) (l : List Line) (w : World) (F : Nat → Prop) (hF : ∀ b, F b → b < w.heap.size) (hl : l.length ≤ 9223372036854775807) (h : RowOf 2 ELine w F A l) :
    Calls Try.prog 5 #[.slice A l.length c, .int .i64 line, .int .i64 col] w (FindPost (findLine line col l) w) := by
  by_cases hlt : 0 ≤ line ∧ line < l.length
  · obtain ⟨h0, h1⟩ := hlt
    obtain ⟨k, rfl⟩ := Int.eq_ofNat_of_zero_le h0
    have hk : k < l.length := by omega
    have hr : findLine k col l = findSpots col l[k].spots := by unfold findLine; rw [dif_pos ⟨h0, h1⟩]; rfl
    rw [hr]; clear hr
    obtain ⟨b, off, S, c', rfl, hb, g0, g1, hc1, hc2, hS⟩ := lines_at h hk
    have hb := hF _ hb
    unfold maxLen at hc2
    go_enter Try.func5, Try.ntmps5
    go_wp2
    go_loopw [9, 27] (fun f i wr => ∃ j : Nat, j ≤ l[k].spots.length ∧ i = .int .i64 j ∧ FRel l[k].spots col w j f wr) (fun _ i _ => l[k].spots.length - (intOf i).toNat)
    case atStart => exact ⟨0, Nat.zero_le _, rfl, FRel.start _ _ _⟩
    case round =>
      obtain ⟨j, hj, rfl, hf⟩ := hrel
      have hj' : j ≤ 9223372036854775807 := by omega
      have HF := Lib.hid hf
      obtain ⟨hno, rfl, B0, B1, hbl⟩ := hf
      have hno := Lib.hid hno
      obtain ⟨a0, a1, a2, a3, a4⟩ := Spot.blk B0
      obtain ⟨c0, c1, c2, c3, c4⟩ := Spot.blk B1
      have z0 := B0.lt; have z1 := B1.lt
      have f0 := B0.frozen 0; have f1 := B0.frozen 1; have f2 := B0.frozen 2; have f3 := B0.frozen 3; have f4 := B0.frozen 4
      have e0 := B1.frozen 0; have e1 := B1.frozen 1; have e2 := B1.frozen 2; have e3 := B1.frozen 3; have e4 := B1.frozen 4
      by_cases hjt : j < l[k].spots.length
      · obtain ⟨b', off', rfl, hb', d0, d1, d2, d3, d4⟩ := spots_at hS hjt
        have hb' := hF _ hb'
        have d0 := (hbl.cell (by exact hb')).trans d0
        have d1 := (hbl.cell (by exact hb')).trans d1
        have d2 := (hbl.cell (by exact hb')).trans d2
        have d3 := (hbl.cell (by exact hb')).trans d3
        have d4 := (hbl.cell (by exact hb')).trans d4
        by_cases t1 : l[k].spots[j].begin_ ≤ col
        · by_cases t2 : col < l[k].spots[j].end_
          · go_wp2
            have hx := Lib.hid (show findSpots col l[k].spots = some l[k].spots[j] by unfold findSpots; rw [find_snoc_some hjt hno.out (by simp [strictIn, t1, t2])])
            obtain ⟨r0, r1, r2, r3, r4⟩ := Spot.blk (s := l[k].spots[j]) ((B0.store5 (b0 := .int .i64 l[k].spots[j].node) (b1 := .int .i64 l[k].spots[j].kind) (b2 := .string l[k].spots[j].name) (b3 := .int .i64 l[k].spots[j].begin_) (b4 := .int .i64 l[k].spots[j].end_)).alloc (.cells l[k].spots[j].arr 28))
            rw [hx.out]
            exact bodyPost_ret (v := .tuple #[.agg l[k].spots[j].arr, .bool true]) (by simp only [Spot.arr] at r0 r1 r2 r3 r4; simp [results, Try.results5, go_sem, Spot.arr, r0, r1, r2, r3, r4]) rfl ⟨rfl, (below_set5 hbl (Nat.le_refl _)).alloc (by simp; omega) _⟩
          · by_cases t3 : col = l[k].spots[j].end_
            · have t3' : (col == l[k].spots[j].end_) = true := by simpa using t3
              have hx := Lib.hid t3; clear t3
              go_wp2
              go_roundw
              case rel => exact ⟨j + 1, by omega, by go_num, FRel.yes hjt hno.out B0 B1 hbl t1 t2 hx.out _⟩
              case measure => simp [intOf]; omega
            · have t3' : (col == l[k].spots[j].end_) = false := by simpa using t3
              have hx := Lib.hid t3; clear t3
              go_wp2
              go_roundw
              case rel => exact ⟨j + 1, by omega, by go_num, FRel.no hjt HF.out (by simp [strictIn, t2]) (by simp [endsIn, hx.out]) _⟩
              case measure => simp [intOf]; omega
        · go_wp2
          go_roundw
          case rel => exact ⟨j + 1, by omega, by go_num, FRel.no hjt HF.out (by simp [strictIn, t1]) (by simp [endsIn, t1]) _⟩
          case measure => simp [intOf]; omega
      · go_wp2
        have hx : findSpots col l[k].spots = l[k].spots.reverse.find? (endsIn col) := by
          have e := hno.out; rw [List.take_of_length_le (by omega)] at e
          unfold findSpots; rw [e]
        rw [hx]
        generalize hy : (List.find? (endsIn col) (List.take j l[k].spots).reverse) = y at *
        rw [List.take_of_length_le (by omega)] at hy
        rw [hy]
        obtain ⟨r0, r1, r2, r3, r4⟩ := Spot.blk (s := y.getD Spot.zero) ((B0.store5 (b0 := .int .i64 (y.getD Spot.zero).node) (b1 := .int .i64 (y.getD Spot.zero).kind) (b2 := .string (y.getD Spot.zero).name) (b3 := .int .i64 (y.getD Spot.zero).begin_) (b4 := .int .i64 (y.getD Spot.zero).end_)))
        exact bodyPost_ret (v := .tuple #[.agg (y.getD Spot.zero).arr, .bool y.isSome]) (by simp [results, Try.results5, go_sem, Spot.arr, r0, r1, r2, r3, r4]) rfl ⟨rfl, below_set5 hbl (Nat.le_refl _)⟩
  · have hr : findLine line col l = none := by unfold findLine; rw [dif_neg hlt]
    rw [hr]
    by_cases h0 : line < 0
    · go_enter Try.func5, Try.ntmps5
      go_wp2
      exact bodyPost_ret (v := .tuple #[.agg Spot.zero.arr, .bool false]) (by simp [results, Try.results5, go_sem, Spot.zero_arr]) rfl ⟨rfl, (Below.refl _ _).alloc (Nat.le_refl _) _⟩
    · have h1 : (l.length : Int) ≤ line := by omega
      go_enter Try.func5, Try.ntmps5
      go_wp2
      exact bodyPost_ret (v := .tuple #[.agg Spot.zero.arr, .bool false]) (by simp [results, Try.results5, go_sem, Spot.zero_arr]) rfl ⟨rfl, (Below.refl _ _).alloc (Nat.le_refl _) _⟩
end Go.Proofs.Ytfnainlijkeekaa
