import Derived.Test.YtfnainlijkeekaaRefFind
import Derived.Test.YtfnainlijkeekaaPlace
import Derived.Test.YtfnainlijkeekaaRefText
import Derived.Test.YtfnainlijkeekaaSame
import Derived.Test.YtfnainlijkeekaaTwin
namespace Go.Proofs.Ytfnainlijkeekaa
open Go Go.RowKit

def sumOf (l : List Line) : Nat := (l.map fun x => x.text.size + x.spots.length).sum
theorem sumOf_take (l : List Line) {k : Nat} (h : k < l.length) : sumOf (l.take (k + 1)) = sumOf (l.take k) + (l[k].text.size + l[k].spots.length) := by
  unfold sumOf; rw [List.take_succ_eq_append_getElem h, List.map_append, List.sum_append]; simp
theorem textOf_sum (l : List Line) : (textOf l).length ≤ sumOf l + l.length := by
  induction l with
  | nil => simp [textOf]
  | cons x r ih =>
    have e : (textOf (x :: r)).length = (x.text.size + 1) + (textOf r).length := by unfold textOf; rw [List.flatMap_cons, List.length_append, List.length_append]; rfl
    have e2 : sumOf (x :: r) = x.text.size + x.spots.length + sumOf r := by simp [sumOf]
    rw [e, e2, List.length_cons]; omega
theorem sumOf_mem {l : List Line} {x : Line} (h : x ∈ l) : x.spots.length ≤ sumOf l := by
  induction l with
  | nil => simp at h
  | cons y r ih =>
    have e2 : sumOf (y :: r) = y.text.size + y.spots.length + sumOf r := by simp [sumOf]
    rcases List.mem_cons.1 h with rfl | h
    · omega
    · have := ih h; omega

set_option maxRecDepth 100000 in
set_option maxHeartbeats 2000000 in
theorem law_any (A : Option Addr) (c : Nat) (line col node : Int) (l : List Line) (w : World) (F : Nat → Prop) (hF : ∀ b, F b → b < w.heap.size) (hl : l.length ≤ 9223372036854775807) (ht : ∀ x ∈ l, x.text.size ≤ 9223372036854775807) (h : RowOf 2 ELine w F A l) :
    Calls Try.prog 3 #[.slice A l.length c, .int .i64 line, .int .i64 col, .int .i64 node] w fun e w' => e = .returned (.bool true) ∧ Below w.heap.size w w' := by
  go_enter Try.func3, Try.ntmps3
  go_wp2
  go_loopw [9, 10] (fun n i wr => ∃ k : Nat, k ≤ l.length ∧ k ≤ 5000 ∧ i = .int .i64 k ∧ n = .int .i64 (sumOf (l.take k)) ∧ sumOf (l.take k) ≤ 200000 ∧ ∃ q, wr = w.drewN q) (fun _ i _ => l.length - (intOf i).toNat)
  case atStart => exact ⟨0, Nat.zero_le _, Nat.zero_le _, rfl, rfl, Nat.zero_le _, 0, rfl⟩
  case round =>
    obtain ⟨k, hk, hk5, rfl, rfl, hm, q, rfl⟩ := hrel
    by_cases hlt : k < l.length
    · by_cases hlt5 : k < 5000
      · obtain ⟨b, off, S, d, rfl, hb, h0, h1, hc1, hc2, hr⟩ := lines_at h hlt
        have htk := ht _ (List.getElem_mem hlt)
        unfold maxLen at hc2
        have hst := Lib.hid (sumOf_take l hlt)
        generalize hM : sumOf (l.take k) = M at *
        have HM := Lib.hid hM; clear hM
        by_cases t1 : (200000 : Int) - M < l[k].text.size
        · go_wp2
          go_quiet (fail)
          go_wp2
          go_ret
          exact ⟨rfl, by repeat (first | exact Below.refl _ _ | refine below_drewN ?_ _)⟩
        · have t1' : decide ((200000 : Int) - M < l[k].text.size) = false := by simpa using t1
          by_cases t2 : (200000 : Int) - M - l[k].text.size < l[k].spots.length
          · go_wp2
            go_quiet (fail)
            go_wp2
            go_ret
            exact ⟨rfl, by repeat (first | exact Below.refl _ _ | refine below_drewN ?_ _)⟩
          · have t2' : decide ((200000 : Int) - M - l[k].text.size < l[k].spots.length) = false := by simpa using t2
            go_wp2
            go_quiet (fail)
            go_wp2
            go_quiet (fail)
            go_wp2
            go_roundw
            case rel => exact ⟨k + 1, by omega, by omega, by go_num, by rw [hst.out]; go_num, by rw [hst.out]; omega, _, rfl⟩
            case measure => simp [intOf] <;> omega
      · have hl5 : (4999 : Int) < l.length := by omega
        go_wp2
        go_ret
        exact ⟨rfl, by repeat (first | exact Below.refl _ _ | refine below_drewN ?_ _)⟩
    · obtain rfl : k = l.length := by omega
      rw [List.take_length] at *
      by_cases hl5 : (4999 : Int) < l.length
      · go_wp2
        go_ret
        exact ⟨rfl, by repeat (first | exact Below.refl _ _ | refine below_drewN ?_ _)⟩
      · generalize hM : sumOf l = M at *
        have HM := Lib.hid hM; clear hM
        have hll : l.length ≤ 4999 := by omega
        have hsp : ∀ x ∈ l, x.spots.length ≤ 1048576 := fun x hx => by have := sumOf_mem hx; have := HM.out; omega
        have htx : (textOf l).length ≤ 140737488355328 := by have := textOf_sum l; have := HM.out; omega
        have HSP := Lib.hid hsp; have HT := Lib.hid ht
        clear hsp ht hlt hk hk5
        generalize hr : findLine line col l = r at *
        have HR := Lib.hid hr; clear hr
        generalize hp : placeFrom node 0 l = p at *
        have HP := Lib.hid hp; clear hp
        have hb0 : Below w.heap.size w (w.drewN q) := below_drewN (Below.refl _ _) _
        have hA0 : RowOf 2 ELine (w.drewN q) F A l := h.keep ELine.stays (Keep.drewN _ _ _) (fun _ hb => hb)
        go_wp2_with fail
        refine (twin_any A c l (w.drewN q) F hF (by omega) HSP.out hA0).mono ?_
        rintro e w1 ⟨v, rfl, ⟨X, cx, rfl, hx1, hx2, hX⟩, hb1⟩
        have hb1 := hb0.trans hb1
        have hA1 : RowOf 2 ELine w1 F A l := h.keep ELine.stays (Keep.below hb1 hF) (fun _ hb => hb)
        go_wp2_with fail
        refine (find_any X cx line col l _ _ (fun b hb => hb.2) hl hX).mono ?_
        rintro e w2 ⟨rfl, hb2⟩
        have hX2 : RowOf 2 ELine w2 _ X l := hX.keep ELine.stays (Keep.below hb2 (fun b hb => hb.2)) (fun _ hb => hb)
        have hb2' := hb1.trans (hb2.mono hb1.size)
        have hA2 : RowOf 2 ELine w2 F A l := h.keep ELine.stays (Keep.below hb2' hF) (fun _ hb => hb)
        rw [HR.out]
        generalize hy : r.getD Spot.zero = y
        have HY := Lib.hid hy; clear hy
        simp only [Spot.arr]
        go_wp2_with fail
        -- the document's Find, in a world with the answer's own block
        have K1 : Blk (w2.alloc (.cells y.arr 28)) w2.heap.size 28 y.arr := Blk.new _ _ _
        have hb3 : Below w.heap.size w (w2.alloc (.cells y.arr 28)) := hb2'.alloc hb2'.size _
        have hb3x : Below w1.heap.size w1 (w2.alloc (.cells y.arr 28)) := hb2.alloc hb2.size _
        simp only [Spot.arr] at K1 hb3 hb3x
        refine (refFind_any A c line col l _ F (by intro b hb; exact Nat.lt_of_lt_of_le (hF b hb) hb3.size) hl (h.keep ELine.stays (Keep.below hb3 hF) (fun _ hb => hb))).mono ?_
        rintro e w4 ⟨rfl, hb4⟩
        have K2 := K1.below hb4 K1.lt
        have hb5 := hb3.trans (hb4.mono hb3.size)
        have hb5x := hb3x.trans (hb4.mono hb3x.size)
        rw [HR.out, HY.out]
        simp only [Spot.arr]
        clear hb4 K1 hb3 hb3x hA2 hX2 hb2' hb2 hA1 hb0 hA0
        go_wp2_with fail
        -- Place, the program's
        have K3 := K2.alloc (.cells y.arr 28)
        have K4 : Blk (w4.alloc (.cells y.arr 28)) w4.heap.size 28 y.arr := Blk.new _ _ _
        have hb6 : Below w.heap.size w (w4.alloc (.cells y.arr 28)) := hb5.alloc hb5.size _
        have hb6x : Below w1.heap.size w1 (w4.alloc (.cells y.arr 28)) := hb5x.alloc hb5x.size _
        simp only [Spot.arr] at K3 K4 hb6 hb6x
        have hX6 := hX.keep ELine.stays (Keep.below hb6x (fun b hb => hb.2)) (fun _ hb => hb)
        refine (place_any X cx node l _ _ (fun b hb => Nat.lt_of_lt_of_le hb.2 hb6x.size) hl hX6).mono ?_
        rintro e w7 ⟨rfl, hb7⟩
        have K5 := K3.below hb7 K3.lt
        have K6 := K4.below hb7 K4.lt
        have hb8 := hb6.trans (hb7.mono hb6.size)
        have hb8x := hb6x.trans (hb7.mono hb6x.size)
        rw [HP.out]
        clear hb7 K3 K4 hb6 hb6x hX6 hb5 hb5x K2
        go_wp2_with fail
        refine (refPlace_any A c node l _ F hl (h.keep ELine.stays (Keep.below hb8 hF) (fun _ hb => hb))).mono ?_
        rintro e w9 ⟨rfl, hb9⟩
        have K7 := K5.below hb9 K5.lt
        have K8 := K6.below hb9 K6.lt
        have hb10 := hb8.trans (hb9.mono hb8.size)
        have hb10x := hb8x.trans (hb9.mono hb8x.size)
        rw [HP.out]
        clear hb9 K5 K6 hb8 hb8x
        obtain ⟨y0, y1, y2, y3, y4⟩ := Spot.blk (s := y) K7
        obtain ⟨z0, z1, z2, z3, z4⟩ := Spot.blk (s := y) K8
        go_wp2_with fail
        have hX10 := hX.keep ELine.stays (Keep.below hb10x (fun b hb => hb.2)) (fun _ hb => hb)
        refine (text_any X cx l _ _ (fun b hb => Nat.lt_of_lt_of_le hb.2 hb10x.size) hl htx hX10).mono ?_
        rintro e w11 ⟨rfl, hb11⟩
        have hb12 := hb10.trans (hb11.mono hb10.size)
        have hb12x := hb10x.trans (hb11.mono hb10x.size)
        clear hb11 hX10 hb10 hb10x y0 y1 y2 y3 y4 z0 z1 z2 z3 z4
        go_wp2_with fail
        refine (refText_any A c l _ F (fun b hb => Nat.lt_of_lt_of_le (hF b hb) hb12.size) hl htx (h.keep ELine.stays (Keep.below hb12 hF) (fun _ hb => hb))).mono ?_
        rintro e w13 ⟨rfl, hb13⟩
        have hb14 := hb12.trans (hb13.mono hb12.size)
        have hb14x := hb12x.trans (hb13.mono hb12x.size)
        clear hb13 hb12 hb12x
        go_wp2_with fail
        refine (same_yes X A cx c l _ (fun b => b < w13.heap.size) (fun b hb => hb) hl (hX.keep ELine.stays (Keep.below hb14x (fun b hb => hb.2)) (fun b hb => Nat.lt_of_lt_of_le hb.2 hb14x.size)) (h.keep ELine.stays (Keep.below hb14 hF) (fun b hb => Nat.lt_of_lt_of_le (hF b hb) hb14.size))).mono ?_
        rintro e w15 ⟨rfl, hb15⟩
        have hb16 := hb14.trans (hb15.mono hb14.size)
        go_wp2
        go_ret
        exact ⟨rfl, hb16⟩
end Go.Proofs.Ytfnainlijkeekaa
