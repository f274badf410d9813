/- the law of what three models differ in -/
import Derived.Test.YtpjkifbicfcajaaThreeP
import Derived.Test.YtpjkifbicfcajaaAwake
set_option linter.unusedSimpArgs false
set_option linter.unusedVariables false
namespace Go.Proofs.Ytpjkifbicfcajaa
open Go Go.RowKit

set_option maxRecDepth 100000 in
set_option maxHeartbeats 8000000 in
theorem three_any (va vb vc : Value) (a b c : AModel) (w : World) (h : IsModel w (fun b => b < w.heap.size) va a) (h' : IsModel w (fun b => b < w.heap.size) vb b) (h'' : IsModel w (fun b => b < w.heap.size) vc c) (hza : ModAll a) (hzb : ModAll b) (hzc : ModAll c) :
    Calls Try.prog 7 #[va, vb, vc] w fun e w' => e = .returned (.bool true) ∧ Below w.heap.size w w' := by
  obtain ⟨_, rfl, A, c1, rfl, ca1, ca2, ra⟩ := h
  obtain ⟨_, rfl, B, c2, rfl, cb1, cb2, rb⟩ := h'
  obtain ⟨_, rfl, C, c3, rfl, cc1, cc2, rc⟩ := h''
  have HRA := Lib.hid (fun (w0 : World) (hb0 : Below w.heap.size w w0) => RowOf.keep ENode.stays (Keep.below hb0 fun _ h => h) (F' := fun b => b < w.heap.size) (fun _ h => h) ra)
  have HRB := Lib.hid (fun (w0 : World) (hb0 : Below w.heap.size w w0) => RowOf.keep ENode.stays (Keep.below hb0 fun _ h => h) (F' := fun b => b < w.heap.size) (fun _ h => h) rb)
  have HRC := Lib.hid (fun (w0 : World) (hb0 : Below w.heap.size w w0) => RowOf.keep ENode.stays (Keep.below hb0 fun _ h => h) (F' := fun b => b < w.heap.size) (fun _ h => h) rc)
  have HLW := Lib.hid (fun (w0 : World) (hb0 : Below w.heap.size w w0) (b : Nat) (hb : b < w.heap.size) => Nat.lt_of_lt_of_le hb hb0.size)
  have HZA := Lib.hid hza; have HZB := Lib.hid hzb; have HZC := Lib.hid hzc
  have hna : a.nodes.length ≤ 1172812402926 := hza.2.2
  have hnb : b.nodes.length ≤ 1172812402926 := hzb.2.2
  have hnc : c.nodes.length ≤ 1172812402926 := hzc.2.2
  clear ra rb rc hza hzb hzc
  obtain ⟨v, hv⟩ : ∃ v : World, ((w.alloc (.cells #[.int .i64 a.next, .slice A a.nodes.length c1] 27)).alloc (.cells #[.int .i64 b.next, .slice B b.nodes.length c2] 27)).alloc (.cells #[.int .i64 c.next, .slice C c.nodes.length c3] 27) = v := ⟨_, rfl⟩
  have HB1 : Hid (Below w.heap.size w v) := Lib.hid (by rw [← hv]; exact (((Below.refl w.heap.size w).alloc (Nat.le_refl _) _).alloc (by simp) _).alloc (by simp; omega) _)
  have HX1 : Hid (Blk v w.heap.size 27 #[.int .i64 a.next, .slice A a.nodes.length c1]) := Lib.hid (by rw [← hv]; exact ((Blk.new _ _ _).alloc _).alloc _)
  have HY1 : Hid (Blk v (w.heap.size + 1) 27 #[.int .i64 b.next, .slice B b.nodes.length c2]) := Lib.hid (by rw [← hv]; exact (Blk.new' (by simp)).alloc _)
  have HZ1 : Hid (Blk v (w.heap.size + 1 + 1) 27 #[.int .i64 c.next, .slice C c.nodes.length c3]) := Lib.hid (by rw [← hv]; exact Blk.new' (by simp))
  go_enter Try.func7, Try.ntmps7
  go_upto_region 1 with fail
  (try rw [hv])
  clear hv
  go_wp2_with fail
  refine (awake_any v).mono ?_
  rintro _ w2 ⟨rfl, hb⟩
  have HB2 := Lib.hid (HB1.out.trans (hb.mono HB1.out.size))
  have HX2 := Lib.hid (HX1.out.below hb HX1.out.lt)
  have HY2 := Lib.hid (HY1.out.below hb HY1.out.lt)
  have HZ2 := Lib.hid (HZ1.out.below hb HZ1.out.lt)
  clear hb HB1 HX1 HY1 HZ1 
  have x0 := HX2.out.cell 0; have x1 := HX2.out.cell 1
  have hxlt := HX2.out.lt
  have y0 := HY2.out.cell 0; have y1 := HY2.out.cell 1
  have hylt := HY2.out.lt
  have z0 := HZ2.out.cell 0; have z1 := HZ2.out.cell 1
  have hzlt := HZ2.out.lt
  simp at x0 x1 y0 y1 z0 z1
  obtain ⟨s, hs⟩ : ∃ x, w2.heap.size = x := ⟨_, rfl⟩
  have HWE : Hid (∃ z, w2.alloc (.cells #[.int .i64 a.next, .slice A a.nodes.length c1, .int .i64 b.next, .slice B b.nodes.length c2, .int .i64 c.next, .slice C c.nodes.length c3] 27) = z) := Lib.hid ⟨_, rfl⟩
  go_wp2_with fail
  obtain ⟨w3, hw3⟩ := HWE.out
  have HS3 : Hid (Blk w3 s 27 #[.int .i64 a.next, .slice A a.nodes.length c1, .int .i64 b.next, .slice B b.nodes.length c2, .int .i64 c.next, .slice C c.nodes.length c3]) := Lib.hid (by rw [← hw3]; exact Blk.new' hs.symm)
  have hb : Below w2.heap.size w2 w3 := by rw [← hw3]; exact (Below.refl _ _).alloc (Nat.le_refl _) _
  (try rw [hs])
  (try rw [hw3])
  clear HWE hw3 hs
  clear x0 x1 hxlt y0 y1 hylt z0 z1 hzlt
  have HB3 := Lib.hid (HB2.out.trans (hb.mono HB2.out.size))
  have HX3 := Lib.hid (HX2.out.below hb HX2.out.lt)
  have HY3 := Lib.hid (HY2.out.below hb HY2.out.lt)
  have HZ3 := Lib.hid (HZ2.out.below hb HZ2.out.lt)
  clear hb HB2 HX2 HY2 HZ2 
  refine (great_any (some ⟨s, 0, none⟩) 3 [a, b, c] w3 (fun b => b < w3.heap.size) (fun _ h => h) (three_models HS3.out ⟨_, _, rfl, ca1, ca2, RowOf.keep ENode.stays (Keep.refl _ _) (HLW.out w3 HB3.out) (HRA.out w3 HB3.out)⟩ ⟨_, _, rfl, cb1, cb2, RowOf.keep ENode.stays (Keep.refl _ _) (HLW.out w3 HB3.out) (HRB.out w3 HB3.out)⟩ ⟨_, _, rfl, cc1, cc2, RowOf.keep ENode.stays (Keep.refl _ _) (HLW.out w3 HB3.out) (HRC.out w3 HB3.out)⟩ HS3.out.lt) (fun m hm => by
    rcases List.mem_cons.1 hm with rfl | hm
    · exact HZA.out
    · rcases List.mem_cons.1 hm with rfl | hm
      · exact HZB.out
      · rcases List.mem_cons.1 hm with rfl | hm
        · exact HZC.out
        · cases hm) (by simp)).mono ?_
  rintro _ w4 ⟨⟨gb, rfl⟩, hb⟩
  have HB4 := Lib.hid (HB3.out.trans (hb.mono HB3.out.size))
  have HX4 := Lib.hid (HX3.out.below hb HX3.out.lt)
  have HY4 := Lib.hid (HY3.out.below hb HY3.out.lt)
  have HZ4 := Lib.hid (HZ3.out.below hb HZ3.out.lt)
  clear hb HB3 HX3 HY3 HZ3 
  clear HS3 ca1 ca2 cb1 cb2 cc1 cc2
  cases gb
  case true =>
    go_wp2
    go_ret
    exact ⟨by simp, HB4.out⟩
  case false =>
    have x0 := HX4.out.cell 0; have x1 := HX4.out.cell 1
    have hxlt := HX4.out.lt
    have y0 := HY4.out.cell 0; have y1 := HY4.out.cell 1
    have hylt := HY4.out.lt
    simp at x0 x1 y0 y1
    go_wp2_with fail
    clear x0 x1 hxlt y0 y1 hylt
    refine (htouched_any A B c1 c2 a b w4 (fun b => b < w.heap.size) (HLW.out _ HB4.out) (HRA.out _ HB4.out) (HRB.out _ HB4.out) HZA.out HZB.out).mono ?_
    rintro _ w5 ⟨v5, rfl, ho, hb⟩
    obtain ⟨A1, d1, rfl⟩ := ho.shape
    have HL15 := Lib.hid ho
    clear ho
    have HB5 := Lib.hid (HB4.out.trans (hb.mono HB4.out.size))
    have HX5 := Lib.hid (HX4.out.below hb HX4.out.lt)
    have HY5 := Lib.hid (HY4.out.below hb HY4.out.lt)
    have HZ5 := Lib.hid (HZ4.out.below hb HZ4.out.lt)
    clear hb HB4 HX4 HY4 HZ4 
    have y0 := HY5.out.cell 0; have y1 := HY5.out.cell 1
    have hylt := HY5.out.lt
    have x0 := HX5.out.cell 0; have x1 := HX5.out.cell 1
    have hxlt := HX5.out.lt
    simp at y0 y1 x0 x1
    go_wp2_with fail
    clear y0 y1 hylt x0 x1 hxlt
    refine (htouched_any B A c2 c1 b a w5 (fun b => b < w.heap.size) (HLW.out _ HB5.out) (HRB.out _ HB5.out) (HRA.out _ HB5.out) HZB.out HZA.out).mono ?_
    rintro _ w6 ⟨v6, rfl, ho, hb⟩
    rw [touchL_sym b a] at ho
    rw [touchE_sym b a]
    obtain ⟨A2, d2, rfl⟩ := ho.shape
    have HL26 := Lib.hid ho
    clear ho
    have HB6 := Lib.hid (HB5.out.trans (hb.mono HB5.out.size))
    have HX6 := Lib.hid (HX5.out.below hb HX5.out.lt)
    have HY6 := Lib.hid (HY5.out.below hb HY5.out.lt)
    have HZ6 := Lib.hid (HZ5.out.below hb HZ5.out.lt)
    have HL16 := Lib.hid (HL15.out.below hb)
    clear hb HB5 HX5 HY5 HZ5 HL15
    have y0 := HY6.out.cell 0; have y1 := HY6.out.cell 1
    have hylt := HY6.out.lt
    have z0 := HZ6.out.cell 0; have z1 := HZ6.out.cell 1
    have hzlt := HZ6.out.lt
    simp at y0 y1 z0 z1
    go_wp2_with fail
    clear y0 y1 hylt z0 z1 hzlt
    refine (htouched_any B C c2 c3 b c w6 (fun b => b < w.heap.size) (HLW.out _ HB6.out) (HRB.out _ HB6.out) (HRC.out _ HB6.out) HZB.out HZC.out).mono ?_
    rintro _ w7 ⟨v7, rfl, ho, hb⟩
    obtain ⟨A3, d3, rfl⟩ := ho.shape
    have HL37 := Lib.hid ho
    clear ho
    have HB7 := Lib.hid (HB6.out.trans (hb.mono HB6.out.size))
    have HX7 := Lib.hid (HX6.out.below hb HX6.out.lt)
    have HY7 := Lib.hid (HY6.out.below hb HY6.out.lt)
    have HZ7 := Lib.hid (HZ6.out.below hb HZ6.out.lt)
    have HL17 := Lib.hid (HL16.out.below hb)
    have HL27 := Lib.hid (HL26.out.below hb)
    clear hb HB6 HX6 HY6 HZ6 HL16 HL26
    have x0 := HX7.out.cell 0; have x1 := HX7.out.cell 1
    have hxlt := HX7.out.lt
    have z0 := HZ7.out.cell 0; have z1 := HZ7.out.cell 1
    have hzlt := HZ7.out.lt
    simp at x0 x1 z0 z1
    go_wp2_with fail
    clear x0 x1 hxlt z0 z1 hzlt
    refine (htouched_any A C c1 c3 a c w7 (fun b => b < w.heap.size) (HLW.out _ HB7.out) (HRA.out _ HB7.out) (HRC.out _ HB7.out) HZA.out HZC.out).mono ?_
    rintro _ w8 ⟨v8, rfl, ho, hb⟩
    obtain ⟨A4, d4, rfl⟩ := ho.shape
    have HL48 := Lib.hid ho
    clear ho
    have HB8 := Lib.hid (HB7.out.trans (hb.mono HB7.out.size))
    have HX8 := Lib.hid (HX7.out.below hb HX7.out.lt)
    have HY8 := Lib.hid (HY7.out.below hb HY7.out.lt)
    have HZ8 := Lib.hid (HZ7.out.below hb HZ7.out.lt)
    have HL18 := Lib.hid (HL17.out.below hb)
    have HL28 := Lib.hid (HL27.out.below hb)
    have HL38 := Lib.hid (HL37.out.below hb)
    clear hb HB7 HX7 HY7 HZ7 HL17 HL27 HL37
    have x0 := HX8.out.cell 0; have x1 := HX8.out.cell 1
    have hxlt := HX8.out.lt
    simp at x0 x1
    go_wp2_with fail
    clear x0 x1 hxlt
    refine (htouched_any A A c1 c1 a a w8 (fun b => b < w.heap.size) (HLW.out _ HB8.out) (HRA.out _ HB8.out) (HRA.out _ HB8.out) HZA.out HZA.out).mono ?_
    rintro _ w9 ⟨v9, rfl, ho, hb⟩
    rw [touchL_self a] at ho
    obtain ⟨A5, d5, rfl⟩ := ho.shape
    have HL59 := Lib.hid ho
    clear ho
    have HB9 := Lib.hid (HB8.out.trans (hb.mono HB8.out.size))
    have HX9 := Lib.hid (HX8.out.below hb HX8.out.lt)
    have HY9 := Lib.hid (HY8.out.below hb HY8.out.lt)
    have HZ9 := Lib.hid (HZ8.out.below hb HZ8.out.lt)
    have HL19 := Lib.hid (HL18.out.below hb)
    have HL29 := Lib.hid (HL28.out.below hb)
    have HL39 := Lib.hid (HL38.out.below hb)
    have HL49 := Lib.hid (HL48.out.below hb)
    clear hb HB8 HX8 HY8 HZ8 HL18 HL28 HL38 HL48
    have HT1 := Lib.hid (touchE_two a b); have HT3 := Lib.hid (touchE_two b c); have HT4 := Lib.hid (touchE_two a c)
    have HEQ1 := Lib.hid (touchE_zero (a := a) (b := b)); have HEQ4 := Lib.hid (touchE_zero (a := a) (b := c))
    have HY5 := Lib.hid (fun h : touchE a b = 0 => touchE_yes (touchE_zero h).1 (touchE_zero h).1)
    have HN1 := Lib.hid (touchL_no (a := a) (b := b))
    obtain ⟨E1, hE1⟩ : ∃ E, touchE a b = E := ⟨_, rfl⟩
    obtain ⟨E3, hE3⟩ : ∃ E, touchE b c = E := ⟨_, rfl⟩
    obtain ⟨E4, hE4⟩ : ∃ E, touchE a c = E := ⟨_, rfl⟩
    obtain ⟨E5, hE5⟩ : ∃ E, touchE a a = E := ⟨_, rfl⟩
    rw [hE1] at HT1 HEQ1 HY5 HN1
    rw [hE5] at HY5
    rw [hE3] at HT3
    rw [hE4] at HT4 HEQ4
    rw [hE1, hE3, hE4, hE5]
    clear hE1 hE3 hE4 hE5
    have HTRI := Lib.hid (fun (h1 : E1 = 0) (h4 : E4 = 0) (n : Int) => touchL_tri (n := n) (HEQ1.out h1).1 (HEQ1.out h1).2 (HEQ4.out h4).2)
    have HNIL := Lib.hid (fun (h1 : E1 = 0) (h4 : E4 = 0) => touchL_nil (HEQ1.out h1).1 (HEQ1.out h1).2 (HEQ4.out h4).2)
    have HRIS := Lib.hid (fun (h1 : E1 = 0) => (touchL_spec (HEQ1.out h1).1 (HEQ1.out h1).2).1)
    have hl1 := touchL_len2 a b; have hl3 := touchL_len2 b c; have hl4 := touchL_len2 a c
    obtain ⟨L1, hL1⟩ : ∃ L, touchL a b = L := ⟨_, rfl⟩
    obtain ⟨L3, hL3⟩ : ∃ L, touchL b c = L := ⟨_, rfl⟩
    obtain ⟨L4, hL4⟩ : ∃ L, touchL a c = L := ⟨_, rfl⟩
    rw [hL1] at HL19 HL29 HTRI HNIL HRIS HN1 hl1
    rw [hL3] at HL39 HTRI HNIL hl3
    rw [hL4] at HL49 HTRI HNIL hl4
    rw [hL1, hL3, hL4]
    clear hL1 hL3 hL4 HEQ1 HEQ4
    rcases HT1.out with h1 | h1
    · subst h1
      rcases HT3.out with rfl | rfl
      · rcases HT4.out with rfl | rfl
        · obtain rfl := HY5.out rfl
          clear HY5 HT1 HT3 HT4
          have HTR := Lib.hid (HTRI.out rfl rfl); have HNI := Lib.hid (HNIL.out rfl rfl); have HRI := Lib.hid (HRIS.out rfl)
          clear HTRI HNIL HRIS HN1
          have h00 : ((0 : Int) != 0) = false := rfl
          have hLL : ((L1.length : Int) != L1.length) = false := by simp
          go_wp2_with fail
          clear h00 hLL
          go_loopg [17] L1.length (fun g s17 wx => ∃ k : Nat, s17 = .int .i64 k ∧ g = L1.length - k ∧ k ≤ L1.length ∧ Below w9.heap.size w9 wx)
          case atStart => exact ⟨0, rfl, rfl, Nat.zero_le _, Below.refl _ _⟩
          case round =>
            obtain ⟨k, rfl, rfl, hk, hbx⟩ := hrel
            have HBX := Lib.hid hbx
            clear hbx
            have k0 : (0 : Int) ≤ k := by omega
            have R1 := Lib.hid (((HL19.out.below HBX.out).isRow (F := fun b => b < wr.heap.size) (fun b _ h => h)).row)
            have R2 := Lib.hid (((HL29.out.below HBX.out).isRow (F := fun b => b < wr.heap.size) (fun b _ h => h)).row)
            by_cases hlt : k < L1.length
            · have hlt' : (k : Int) < L1.length := by omega
              obtain ⟨b1, off1, e1, _, q1⟩ := int_at R1.out hlt
              obtain ⟨b2, off2, e2, _, q2⟩ := int_at R2.out hlt
              subst e1; subst e2
              have hne : (L1[k] != L1[k]) = false := by simp
              by_cases hkz : k = 0
              · have hk0 : decide ((k : Int) > 0) = false := decide_eq_false (by omega)
                have hk1 : decide ((0 : Int) < (k : Int)) = false := decide_eq_false (by omega)
                have hk2 : ¬ (0 : Int) < (k : Int) := by omega
                have hk3 : ¬ 0 < k := by omega
                have hk4 : decide (0 < k) = false := decide_eq_false (by omega)
                clear hkz
                obtain ⟨x, hx⟩ : ∃ x, L1[k] = x := ⟨_, rfl⟩
                rw [hx] at q1 q2 hne
                clear hx
                go_wp2_with fail
                have kq1 := cell_regrown (q1)
                have kq2 := cell_regrown (q2)
                clear q1 q2
                refine wp_region_quiet_below (by kernel_rfl) (by kernel_rfl) ?_
                repeat (first | go_big_quiet_step (fail) | quiet_step (fail))
                refine wpQuiet_nil ?_
                intro _ hw'
                obtain ⟨⟨dq, osq⟩, hw''⟩ := hw'
                subst hw''
                go_wp2
                go_roundg (L1.length - (k + 1))
                case measure => omega
                case rel => exact ⟨k + 1, by go_num, rfl, by omega, HBX.out.trans ((below_regrown wr dq osq).mono HBX.out.size)⟩
              · obtain ⟨k, rfl⟩ : ∃ j, k = j + 1 := ⟨k - 1, by omega⟩
                have hk0 : decide (((k + 1 : Nat) : Int) > 0) = true := decide_eq_true (by omega)
                obtain ⟨b3, off3, e3, _, q3⟩ := int_at R1.out (show k < L1.length by omega)
                injection e3 with e3
                injection e3 with e3a e3b
                subst e3a; subst e3b
                have hri := List.pairwise_iff_getElem.1 HRI.out k (k + 1) (by omega) hlt (by omega)
                obtain ⟨y, hy⟩ : ∃ y, L1[k] = y := ⟨_, rfl⟩
                obtain ⟨x, hx⟩ : ∃ x, L1[k + 1] = x := ⟨_, rfl⟩
                rw [hx] at q1 q2 hne hri
                rw [hy] at q3 hri
                have hle : decide (x ≤ y) = false := decide_eq_false (by omega)
                have k1 : ((k + 1 : Nat) : Int) - 1 = k := by omega
                clear hx hy hri
                go_wp2_with fail
                have kq1 := cell_regrown (q1)
                have kq2 := cell_regrown (q2)
                have kq3 := cell_regrown (q3)
                clear q1 q2 q3
                refine wp_region_quiet_below (by kernel_rfl) (by kernel_rfl) ?_
                repeat (first | go_big_quiet_step (fail) | quiet_step (fail))
                refine wpQuiet_nil ?_
                intro _ hw'
                obtain ⟨⟨dq, osq⟩, hw''⟩ := hw'
                subst hw''
                go_wp2
                go_roundg (L1.length - (k + 1 + 1))
                case measure => omega
                case rel => exact ⟨k + 1 + 1, by go_num, rfl, by omega, HBX.out.trans ((below_regrown wr dq osq).mono HBX.out.size)⟩
            · have hlt' : ¬ (k : Int) < L1.length := by omega
              have HBZ := Lib.hid (HB9.out.trans (HBX.out.mono HB9.out.size))
              have HXZ := Lib.hid (HX9.out.below HBX.out HX9.out.lt); have HYZ := Lib.hid (HY9.out.below HBX.out HY9.out.lt)
              have M1 := Lib.hid (HL19.out.below HBX.out); have M3 := Lib.hid (HL39.out.below HBX.out); have M4 := Lib.hid (HL49.out.below HBX.out)
              clear HB9 HX9 HY9 HZ9 HL19 HL29 HL39 HL49 HL59 R1 R2 HRI k0 hk
              obtain ⟨wq, hwq⟩ : ∃ x, x = wr := ⟨_, rfl⟩
              subst hwq
              go_wp2_with fail
              clear hlt hlt' HBX
              go_loopg [18] L4.length (fun g s18 wx => ∃ k : Nat, s18 = .int .i64 k ∧ g = L4.length - k ∧ k ≤ L4.length ∧ Below wq.heap.size wq wx)
              case atStart => exact ⟨0, rfl, rfl, Nat.zero_le _, Below.refl _ _⟩
              case round =>
                obtain ⟨k, rfl, rfl, hk, hbx⟩ := hrel
                have HBX := Lib.hid hbx
                clear hbx
                have k0 : (0 : Int) ≤ k := by omega
                have R1 := Lib.hid (((M1.out.below HBX.out).isRow (F := fun b => b < wr.heap.size) (fun b _ h => h)).row)
                have R3 := Lib.hid (((M3.out.below HBX.out).isRow (F := fun b => b < wr.heap.size) (fun b _ h => h)).row)
                have R4 := Lib.hid (((M4.out.below HBX.out).isRow (F := fun b => b < wr.heap.size) (fun b _ h => h)).row)
                by_cases hlt : k < L4.length
                · have hlt' : (k : Int) < L4.length := by omega
                  obtain ⟨b4, off4, e4, _, q4⟩ := int_at R4.out hlt
                  subst e4
                  have HIN := Lib.hid (HTR.out (L4[k]'hlt) (List.getElem_mem hlt))
                  obtain ⟨x, hx⟩ : ∃ x, L4[k] = x := ⟨_, rfl⟩
                  rw [hx] at q4 HIN
                  clear hx
                  by_cases hin : x ∈ L1
                  · have C1 := Lib.hid (lin_any A1 d1 L1 x wr _ R1.out (by omega))
                    rw [decide_eq_true hin] at C1
                    clear hin HIN
                    go_wp2_with fail
                    refine C1.out.mono ?_
                    rintro _ _ ⟨rfl, rfl⟩
                    go_wp2
                    go_roundg (L4.length - (k + 1))
                    case measure => omega
                    case rel => exact ⟨k + 1, by go_num, rfl, by omega, HBX.out⟩
                  · have C1 := Lib.hid (lin_any A1 d1 L1 x wr _ R1.out (by omega))
                    have C3 := Lib.hid (lin_any A3 d3 L3 x wr _ R3.out (by omega))
                    rw [decide_eq_false hin] at C1
                    rw [decide_eq_true (HIN.out hin)] at C3
                    clear hin HIN
                    go_wp2_with fail
                    refine C1.out.mono ?_
                    rintro _ _ ⟨rfl, rfl⟩
                    go_wp2_with fail
                    refine C3.out.mono ?_
                    rintro _ _ ⟨rfl, rfl⟩
                    go_wp2
                    go_roundg (L4.length - (k + 1))
                    case measure => omega
                    case rel => exact ⟨k + 1, by go_num, rfl, by omega, HBX.out⟩
                · have hlt' : ¬ (k : Int) < L4.length := by omega
                  have HBF := Lib.hid (HBZ.out.trans (HBX.out.mono HBZ.out.size))
                  have HXF := Lib.hid (HXZ.out.below HBX.out HXZ.out.lt); have HYF := Lib.hid (HYZ.out.below HBX.out HYZ.out.lt)
                  have x1 : wr.cell? ⟨w.heap.size, 1, none⟩ = some (.slice A a.nodes.length c1) := HXF.out.cell 1
                  have y1 : wr.cell? ⟨w.heap.size + 1, 1, none⟩ = some (.slice B b.nodes.length c2) := HYF.out.cell 1
                  have hxlt := HXF.out.lt; have hylt := HYF.out.lt
                  have hsum : (L1.length : Int) ≤ (a.nodes.length : Int) + b.nodes.length := by omega
                  have hsum' : decide ((L1.length : Int) ≤ (a.nodes.length : Int) + b.nodes.length) = true := decide_eq_true hsum
                  clear HXZ HYZ HBZ R1 R3 R4 M1 M3 M4 HTR HBX
                  by_cases hz : L1.length = 0
                  · have e34 := HNI.out (List.eq_nil_of_length_eq_zero hz)
                    subst e34
                    have hz1 : ¬ (0 : Int) < (L1.length : Int) := by omega
                    have hz2 : decide ((0 : Int) < (L1.length : Int)) = false := decide_eq_false hz1
                    have hz3 : ¬ 0 < L1.length := by omega
                    have hz4 : decide (0 < L1.length) = false := decide_eq_false hz3
                    have heq : ((L4.length : Int) == L4.length) = true := by simp
                    clear HNI hz
                    go_wp2
                    go_ret
                    exact ⟨by simp, HBF.out⟩
                  · have hz1 : (0 : Int) < (L1.length : Int) := by omega
                    have hz2 : decide ((0 : Int) < (L1.length : Int)) = true := decide_eq_true hz1
                    have hz3 : 0 < L1.length := by omega
                    have hz4 : decide (0 < L1.length) = true := decide_eq_true hz3
                    clear HNI hz
                    go_wp2
                    go_ret
                    exact ⟨by simp, HBF.out⟩
        · clear HY5 HT1 HT3 HT4
          clear HTRI HNIL HRIS HN1 hl1 hl3 hl4
          go_wp2
          go_ret
          exact ⟨by simp, HB9.out⟩
      · clear HY5 HT1 HT3
        rcases HT4.out with rfl | rfl
        all_goals
          clear HT4
          clear HTRI HNIL HRIS HN1 hl1 hl3 hl4
          go_wp2
          go_ret
          exact ⟨by simp, HB9.out⟩
    · obtain rfl := HN1.out h1
      subst h1
      rcases HT3.out with rfl | rfl <;> rcases HT4.out with rfl | rfl
      all_goals
        clear HTRI HNIL HRIS HY5 HN1 hl1 hl3 hl4 HT1 HT3 HT4
        go_wp2
        go_ret
        exact ⟨by simp, HB9.out⟩
end Go.Proofs.Ytpjkifbicfcajaa
