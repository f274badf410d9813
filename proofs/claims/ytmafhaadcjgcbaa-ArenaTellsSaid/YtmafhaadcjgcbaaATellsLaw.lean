/- the law of what is told of a model -/
import Derived.Test.YtmafhaadcjgcbaaATellsP
import Derived.Test.YtmafhaadcjgcbaaAKept
import Derived.Test.YtmafhaadcjgcbaaADataA
namespace Go.Proofs.Ytmafhaadcjgcbaa
open Go Go.RowKit

set_option maxRecDepth 100000 in
set_option maxHeartbeats 4000000 in
theorem tells_any (va : Value) (m : AModel) (id : Int) (role : ByteArray) (w : World) (h : IsModel w (fun b => b < w.heap.size) va m) (hid : InR id) (hz : ∀ x ∈ m.nodes, NodeOK x ∧ LensOK x) :
    Calls Try.prog 4 #[va, .int .i64 id, .string role] w fun e w' => e = .returned (.bool true) ∧ Below w.heap.size w w' := by
  have HMA := Lib.hid h
  obtain ⟨_, rfl, A, c, rfl, ca1, ca2, ra⟩ := h
  unfold maxLen at ca2
  have HB0 := Lib.hid ((Below.refl w.heap.size w).alloc (Nat.le_refl _) (.cells #[.int .i64 m.next, .slice A m.nodes.length c] 24))
  have HGA := Lib.hid (fun (w0 : World) (hb0 : Below w.heap.size w w0) => great_any _ m w0 _ (HMA.out.keep (Keep.below hb0 fun _ h => h) (F' := fun b => b < w0.heap.size) (fun b hb => Nat.lt_of_lt_of_le hb hb0.size)))
  have HRA := Lib.hid (fun (w0 : World) (hb0 : Below w.heap.size w w0) => RowOf.keep ENode.stays (Keep.below hb0 fun _ h => h) (F' := fun b => b < w.heap.size) (fun _ h => h) ra)
  have HZ := Lib.hid hz
  clear hz ra
  by_cases hgr : 300 < m.nodes.length
  · have HG := Lib.hid (fun w0 hb0 => res_is (decide_eq_true hgr) (HGA.out w0 hb0))
    clear hgr HGA HRA
    go_enter Try.func4, Try.ntmps4
    go_wp2_with fail
    refine (HG.out _ HB0.out).mono ?_
    rintro _ w2 ⟨rfl, hb2⟩
    have HB2 := Lib.hid (HB0.out.trans (hb2.mono HB0.out.size))
    clear hb2
    go_wp2
    go_ret
    exact ⟨rfl, HB2.out⟩
  · have hln : m.nodes.length ≤ 300 := by omega
    have HG := Lib.hid (fun w0 hb0 => res_is (decide_eq_false hgr) (HGA.out w0 hb0))
    have HLE := Lib.hid (fun (w0 : World) (hb0 : Below w.heap.size w w0) => lent_any A c m w0 (fun b => b < w.heap.size) (fun b hb => Nat.lt_of_lt_of_le hb hb0.size) (HRA.out w0 hb0) (fun x hx => (HZ.out x hx).2) hln)
    clear hgr HGA
    go_enter Try.func4, Try.ntmps4
    go_wp2_with fail
    refine (HG.out _ HB0.out).mono ?_
    rintro _ w2 ⟨rfl, hb2⟩
    have HB2 := Lib.hid (HB0.out.trans (hb2.mono HB0.out.size))
    have HM2 := Lib.hid ((Blk.new w 24 #[.int .i64 m.next, .slice A m.nodes.length c]).below hb2 (by simp))
    have m0 := HM2.out.cell 0; have m1 := HM2.out.cell 1
    have hmlt := HM2.out.lt
    simp at m0 m1
    clear hb2 HB0 HG
    go_wp2_with fail
    refine (HLE.out _ HB2.out).mono ?_
    rintro _ w3 ⟨_, rfl, ⟨_, rfl, X, cx, rfl, hm3⟩, hb3⟩
    have HB3 := Lib.hid (HB2.out.trans (hb3.mono HB2.out.size))
    have HM3 := Lib.hid (HM2.out.below hb3 hmlt)
    have HX3 := Lib.hid hm3
    have hsz3 := HM3.out.lt
    clear hb3 m0 m1 HLE HB2 HM2 hmlt
    go_wp2_with fail
    obtain ⟨p, hp⟩ : ∃ p, w3.heap.size = p := ⟨_, rfl⟩
    obtain ⟨W, hW⟩ : ∃ W : World, w3.alloc (.cells #[.int .i64 m.next, .slice X m.nodes.length cx] 24) = W := ⟨_, rfl⟩
    have HBW : Hid (Below w.heap.size w W) := Lib.hid (by rw [← hW]; exact HB3.out.alloc HB3.out.size _)
    have HMW : Hid (Blk W w.heap.size 24 #[.int .i64 m.next, .slice A m.nodes.length c]) := Lib.hid (by rw [← hW]; exact HM3.out.alloc _)
    have HXW : Hid (Blk W p 24 #[.int .i64 m.next, .slice X m.nodes.length cx]) := Lib.hid (by rw [← hW, ← hp]; exact Blk.new _ _ _)
    have HLW : Hid (IsModelM W (fun b => b < w3.heap.size) (.agg #[.int .i64 m.next, .slice X m.nodes.length cx]) m) := Lib.hid (by rw [← hW]; exact IsModelM.keep (⟨_, rfl, X, cx, rfl, HX3.out⟩ : IsModelM w3 (fun b => w2.heap.size ≤ b ∧ b < w3.heap.size) (.agg #[.int .i64 m.next, .slice X m.nodes.length cx]) m) (Keep.below ((Below.refl _ _).alloc (Nat.le_refl _) _) (fun b hb => hb.2)) (fun b hb => hb.2))
    have HPW : Hid (w3.heap.size ≤ p ∧ p < W.heap.size) := Lib.hid ⟨by omega, HXW.out.lt⟩
    have hmW := HMW.out.lt
    rw [hp] at HLW HPW
    rw [hW, hp]
    clear hW hp HX3 HB3 HM3 hsz3
    have hFp : ∀ b, b < p → b < W.heap.size := fun b hb => Nat.lt_trans hb HPW.out.2
    have hRX : RowOf 7 ENode W (fun b => b < p) X m.nodes ∧ cx ≤ 9223372036854775807 := by
      obtain ⟨_, e, A', c', e2, _, x2, x3⟩ := HLW.out.plain
      simp only [Value.agg.injEq, Array.mk.injEq, List.cons.injEq, true_and, and_true] at e
      subst e
      injection e2 with f1 _ f2
      subst f1; subst f2
      unfold maxLen at x2
      exact ⟨x3, x2⟩
    have hcx := hRX.2
    have HRX := Lib.hid hRX.1
    clear hRX
    go_loopg [8, 9, 10, 11, 12, 13, 14, 15, 16] 2 (fun g s8 s9 s10 s11 s12 s13 s14 s15 s16 wx => ∃ t : Nat, s8 = .int .i64 t ∧ g = 2 - t ∧ t ≤ 2 ∧ Below W.heap.size W wx)
    case atStart => exact ⟨0, rfl, rfl, by omega, Below.refl _ _⟩
    case round =>
      obtain ⟨t, rfl, rfl, htl, hb⟩ := hrel
      have HB := Lib.hid hb
      have HBX := Lib.hid (HBW.out.trans (hb.mono HBW.out.size))
      have HMR := Lib.hid (HMW.out.below hb hmW)
      have HXR := Lib.hid (HXW.out.below hb HPW.out.2)
      have HRXr := Lib.hid (fun (w0 : World) (hb0 : Below W.heap.size W w0) => HRX.out.keep ENode.stays (Keep.below hb0 hFp) (F' := fun b => b < p) (fun _ h => h))
      have HFX := Lib.hid (fun (w0 : World) (hb0 : Below W.heap.size W w0) (b : Nat) (hb : b < p) => Nat.lt_of_lt_of_le (hFp b hb) hb0.size)
      have m0 := HMR.out.cell 0; have m1 := HMR.out.cell 1; have x0 := HXR.out.cell 0; have x1 := HXR.out.cell 1
      have hmr := HMR.out.lt; have hxr := HXR.out.lt
      have hsz := hb.size
      simp at m0 m1 x0 x1
      clear hb
      by_cases hlt : t < 2
      · have hlt' : (t : Int) < 2 := by omega
        obtain ⟨y, hy⟩ : ∃ y, fnd m id = y := ⟨_, rfl⟩
        obtain ⟨ok, hok⟩ : ∃ ok, hasB m id = ok := ⟨_, rfl⟩
        have HY := Lib.hid hy; have HOK := Lib.hid hok
        clear hy hok
        go_wp2_with fail
        refine (findA_any X cx m wr (fun b => b < p) (HFX.out _ HB.out) (HRXr.out _ HB.out) (fun x hx => (HZ.out x hx).1) (fun x hx => (HZ.out x hx).2) (by omega) id hid).mono ?_
        rintro _ w1 ⟨⟨v, rfl, hf⟩, hb1⟩
        obtain ⟨P1, K1, R1, cp1, ck1, cr1, hv, hn, f1, f2, f3⟩ := foundAs_got hf
        rw [HY.out, HOK.out] at hv
        rw [HY.out] at hn f1 f2 f3
        subst hv
        have hblk : ∀ b, wr.heap.size ≤ b ∧ b < w1.heap.size → W.heap.size ≤ b ∧ b < w1.heap.size ∧ b ≠ w1.heap.size := fun b hb => ⟨by omega, hb.2, by omega⟩
        have HWP := Lib.hid (WrR.of_row propCells_len hn.p f1 hblk); have HWK := Lib.hid (WrR.of_row intCells_len hn.k f2 hblk); have HWR := Lib.hid (WrR.of_row refCells_len hn.r f3 hblk)
        have HN1 := Lib.hid hn
        have YLEN := Lib.hid (⟨hn.lp, hn.lk, hn.lr⟩ : y.props.length ≤ 9223372036854775807 ∧ y.kids.length ≤ 9223372036854775807 ∧ y.refs.length ≤ 9223372036854775807)
        have HB1 := Lib.hid (HB.out.trans (hb1.mono hsz))
        have HMR1 := Lib.hid (HMR.out.below hb1 hmr)
        have HXR1 := Lib.hid (HXR.out.below hb1 hxr)
        have HSZ1 := Lib.hid hb1.size
        clear hf hn f1 f2 f3 hb1 m0 m1 x0 x1 HMR HXR HB hmr hxr hblk
        have m0 := HMR1.out.cell 0; have m1 := HMR1.out.cell 1
        have hmr1 := HMR1.out.lt
        simp at m0 m1
        go_wp2_with fail
        obtain ⟨q1, hq1⟩ : ∃ q, w1.heap.size = q := ⟨_, rfl⟩
        obtain ⟨u1, hu1⟩ : ∃ u : World, w1.alloc (.cells #[.int .i64 y.id, .string y.concept, .int .i64 y.parent, .string y.role, .slice P1 y.props.length cp1, .slice K1 y.kids.length ck1, .slice R1 y.refs.length cr1] 38) = u := ⟨_, rfl⟩
        have HC1 : Hid (Below q1 w1 u1) := Lib.hid (by rw [← hu1, ← hq1]; exact (Below.refl _ _).alloc (Nat.le_refl _) _)
        have HQ1 : Hid (Blk u1 q1 38 #[.int .i64 y.id, .string y.concept, .int .i64 y.parent, .string y.role, .slice P1 y.props.length cp1, .slice K1 y.kids.length ck1, .slice R1 y.refs.length cr1]) := Lib.hid (by rw [← hu1, ← hq1]; exact Blk.new _ _ _)
        rw [hq1] at HWP HWK HWR HN1 HSZ1 hmr1
        have hq1w : q1 = w1.heap.size := hq1.symm
        rw [hu1, hq1]
        have hWq : W.heap.size ≤ q1 := by have := HSZ1.out; omega
        have HB2 := Lib.hid (HB1.out.trans (HC1.out.mono hWq))
        have HM2 := Lib.hid (HMR1.out.below HC1.out hmr1)
        have HX2 := Lib.hid (HXR1.out.below HC1.out (by have := HXR1.out.lt; omega))
        have HQW := Lib.hid hq1w
        clear hu1 hq1 hq1w m0 m1 hmr1 HB1 HMR1 HXR1
        have hzu := HB2.out.size
        refine (findR_any A c m u1 (fun b => b < w.heap.size) (fun b hb => by have := HBW.out.size; omega) (HRA.out _ (HBW.out.trans (HB2.out.mono HBW.out.size))) (fun x hx => (HZ.out x hx).1) (by omega) id hid).mono ?_
        rintro _ w4 ⟨⟨v, rfl, hf⟩, hb4⟩
        obtain ⟨P2, K2, R2, cp2, ck2, cr2, hv, hn⟩ := foundIn_got hf
        rw [HY.out, HOK.out] at hv
        rw [HY.out] at hn
        subst hv
        have hq1lt := HQ1.out.lt
        have HN2 := Lib.hid hn
        have HC4 := Lib.hid (HC1.out.trans (hb4.mono (Nat.le_of_lt hq1lt)))
        have HQ4 := Lib.hid (HQ1.out.below hb4 hq1lt)
        have HB4 := Lib.hid (HB2.out.trans (hb4.mono hzu))
        have HM4 := Lib.hid (HM2.out.below hb4 HM2.out.lt)
        have HX4 := Lib.hid (HX2.out.below hb4 HX2.out.lt)
        clear hf hn hb4 HC1 HQ1 HB2 HM2 HX2 hzu
        go_wp2_with fail
        obtain ⟨q2, hq2⟩ : ∃ q, w4.heap.size = q := ⟨_, rfl⟩
        obtain ⟨u, hu⟩ : ∃ u : World, w4.alloc (.cells #[.int .i64 y.id, .string y.concept, .int .i64 y.parent, .string y.role, .slice P2 y.props.length cp2, .slice K2 y.kids.length ck2, .slice R2 y.refs.length cr2] 38) = u := ⟨_, rfl⟩
        have HD : Hid (Below w4.heap.size w4 u) := Lib.hid (by rw [← hu]; exact (Below.refl _ _).alloc (Nat.le_refl _) _)
        have HQ2 : Hid (Blk u q2 38 #[.int .i64 y.id, .string y.concept, .int .i64 y.parent, .string y.role, .slice P2 y.props.length cp2, .slice K2 y.kids.length ck2, .slice R2 y.refs.length cr2]) := Lib.hid (by rw [← hu, ← hq2]; exact Blk.new _ _ _)
        rw [hu, hq2]
        have HC := Lib.hid (HC4.out.trans (HD.out.mono (by have := HQ4.out.lt; omega)))
        have HQ := Lib.hid (HQ4.out.below HD.out HQ4.out.lt)
        have HBu := Lib.hid (HB4.out.trans (HD.out.mono HB4.out.size))
        have HM := Lib.hid (HM4.out.below HD.out HM4.out.lt)
        have HX := Lib.hid (HX4.out.below HD.out HX4.out.lt)
        have HN1u := Lib.hid (HN1.out.keep (Keep.below HC.out (fun b hb => hb.2)) (F' := fun b => b < u.heap.size) (fun b hb => by have := HQ.out.lt; omega))
        have HN2u := Lib.hid (HN2.out.keep (Keep.below HD.out (fun b hb => by have := HBW.out.size; have := HB4.out.size; omega)) (F' := fun b => b < u.heap.size) (fun b hb => by have := HBW.out.size; have := HBu.out.size; omega))
        clear hu hq2 HD HC4 HQ4 HB4 HM4 HX4 HN1 HN2 hq1lt
        have m0 := HM.out.cell 0; have m1 := HM.out.cell 1; have x0 := HX.out.cell 0; have x1 := HX.out.cell 1
        have a0 := HQ.out.cell 0; have a1 := HQ.out.cell 1; have a2 := HQ.out.cell 2; have a3 := HQ.out.cell 3; have a4 := HQ.out.cell 4; have a5 := HQ.out.cell 5; have a6 := HQ.out.cell 6
        have b0 := HQ2.out.cell 0; have b1 := HQ2.out.cell 1; have b2 := HQ2.out.cell 2; have b3 := HQ2.out.cell 3; have b4 := HQ2.out.cell 4; have b5 := HQ2.out.cell 5; have b6 := HQ2.out.cell 6
        simp at m0 m1 x0 x1 a0 a1 a2 a3 a4 a5 a6 b0 b1 b2 b3 b4 b5 b6
        obtain ⟨D, hD⟩ : ∃ D, depR m id = D := ⟨_, rfl⟩
        have HG := Lib.hid (fun (d : Nat) (os : Array Obj) => below_regrown u d os)
        have HGW := Lib.hid (fun (d : Nat) (os : Array Obj) => HBu.out.trans ((below_regrown u d os).mono HBu.out.size))
        have HLT := Lib.hid (fun (d : Nat) (os : Array Obj) (b : Nat) (hb : b < u.heap.size) => Nat.lt_of_lt_of_le hb (HG.out d os).size)
        have D1 := Lib.hid (fun (d : Nat) (os : Array Obj) => by
          have n1 := HN1u.out.keep (Keep.below (HG.out d os) (fun b hb => hb)) (F' := fun b => b < u.heap.size) (fun _ h => h)
          have n2 := HN2u.out.keep (Keep.below (HG.out d os) (fun b hb => hb)) (F' := fun b => b < u.heap.size) (fun _ h => h)
          exact Calls.regrown_of (w := u) (d := d) (os := os) (res_is (eqB_yes (rfl : y = y)) (sameNode_any y y P1 K1 R1 P2 K2 R2 cp1 ck1 cr1 cp2 ck2 cr2 _ _ _ (HLT.out d os) (HLT.out d os) n1.p n1.k n1.r n2.p n2.k n2.r n1.lp n1.lk n1.lr)))
        have D2 := Lib.hid (fun (d : Nat) (os : Array Obj) => Calls.regrown_of (w := u) (d := d) (os := os) (int_is hD (depthA_any X cx m _ (fun b => b < p) (HFX.out _ (HGW.out d os)) (HRXr.out _ (HGW.out d os)) (fun x hx => (HZ.out x hx).1) (by omega) id hid)))
        have D3 := Lib.hid (fun (d : Nat) (os : Array Obj) => Calls.regrown_of (w := u) (d := d) (os := os) (int_is hD (rdepth_any A c m _ (fun b => b < w.heap.size) (fun b hb => by have := HBW.out.size; have := (HGW.out d os).size; omega) (HRA.out _ (HBW.out.trans ((HGW.out d os).mono HBW.out.size))) (fun x hx => (HZ.out x hx).1) (by omega) id hid)))
        have k0 := cell_regrown m0; have k1 := cell_regrown m1; have k2 := cell_regrown x0; have k3 := cell_regrown x1
        have l0 := cell_regrown a0; have l1 := cell_regrown a1; have l2 := cell_regrown a2; have l3 := cell_regrown a3; have l4 := cell_regrown a4; have l5 := cell_regrown a5; have l6 := cell_regrown a6
        have n0 := cell_regrown b0; have n1 := cell_regrown b1; have n2 := cell_regrown b2; have n3 := cell_regrown b3; have n4 := cell_regrown b4; have n5 := cell_regrown b5; have n6 := cell_regrown b6
        clear m0 m1 x0 x1 a0 a1 a2 a3 a4 a5 a6 b0 b1 b2 b3 b4 b5 b6 hD
        refine wp_region_quiet_below (by kernel_rfl) (by kernel_rfl) ?_
        repeat (first | go_big_quiet_step ((first | with_reducible exact D1.out _ _ | with_reducible exact D2.out _ _ | with_reducible exact D3.out _ _)) | quiet_step ((first | with_reducible exact D1.out _ _ | with_reducible exact D2.out _ _ | with_reducible exact D3.out _ _)))
        refine wpQuiet_nil ?_
        intro _ hw'
        obtain ⟨⟨dq, osq⟩, hw''⟩ := hw'
        subst hw''
        obtain ⟨W0, hW0⟩ : ∃ W0 : World, (Sort.grow (redrawn u dq) osq).drew = W0 := ⟨_, rfl⟩
        have HS0 : Hid (Below u.heap.size u W0) := Lib.hid (by rw [← hW0]; exact (HG.out dq osq).trans ((Below.refl _ _).drew.mono (HG.out dq osq).size))
        have HB0 := Lib.hid (HBu.out.trans (HS0.out.mono HBu.out.size))
        have HM0 := Lib.hid (HM.out.below HS0.out HM.out.lt)
        have HX0 := Lib.hid (HX.out.below HS0.out HX.out.lt)
        have HQ0 := Lib.hid (HQ.out.below HS0.out HQ.out.lt)
        have HC0 := Lib.hid (HC.out.trans (HS0.out.mono (Nat.le_of_lt HQ.out.lt)))
        clear k0 k1 k2 k3 l0 l1 l2 l3 l4 l5 l6 n0 n1 n2 n3 n4 n5 n6 D1 D2 D3 HG HGW HLT HN1u HN2u HM HX HQ HQ2 HC HBu HS0
        have HSS : Hid (∀ w', Below W0.heap.size W0 w' → (fun w' => w'.cell? ⟨p, 0, none⟩ = some (.int .i64 m.next) ∧ w'.cell? ⟨p, 1, none⟩ = some (.slice X m.nodes.length cx)) w') := Lib.hid (fun w' hb => by
          have h := HX0.out.below hb HX0.out.lt
          have x0 := h.cell 0; have x1 := h.cell 1
          simp at x0 x1
          exact ⟨x0, x1⟩)
        have HP0 : Hid (p < W0.heap.size) := Lib.hid HX0.out.lt
        go_wp2_with fail
        refine wp_region_X (S := (fun w' => w'.cell? ⟨p, 0, none⟩ = some (.int .i64 m.next) ∧ w'.cell? ⟨p, 1, none⟩ = some (.slice X m.nodes.length cx))) 15 (by kernel_rfl) (by rw [hW0]; exact HSS.out _ (Below.refl _ _)) (fun hHeld => ?_)
        rw [hW0] at hHeld ⊢
        clear hW0
        refine wpAnyX_take (i := 0) (v := ?_) rfl (by kernel_rfl) (by kernel_rfl) (by kernel_rfl) (by kernel_rfl) (fun _ _ _ h => h) (Or.inl ⟨by rfl, ?_⟩) (by assumption) ?_
        rotate_left 1
        · (intro w' hSw; obtain ⟨s0, s1⟩ := hSw; go_simp); try with_reducible rfl
        try simp only [Act.put, List.setIfInBounds_toArray, List.set_cons_zero, List.set_cons_succ, Nat.zero_add]
        refine wpAnyX_take (i := 2) (v := ?_) rfl (by kernel_rfl) (by kernel_rfl) (by kernel_rfl) (by kernel_rfl) (fun _ _ _ h => h) (Or.inl ⟨by rfl, ?_⟩) (by assumption) ?_
        rotate_left 1
        · (intro w' hSw; obtain ⟨s0, s1⟩ := hSw; go_simp); try with_reducible rfl
        try simp only [Act.put, List.setIfInBounds_toArray, List.set_cons_zero, List.set_cons_succ, Nat.zero_add]
        refine wpAnyX_take (i := 3) (v := ?_) rfl (by kernel_rfl) (by kernel_rfl) (by kernel_rfl) (by kernel_rfl) (fun _ _ _ h => h) (Or.inl ⟨by rfl, ?_⟩) (by assumption) ?_
        rotate_left 1
        · (intro w' hSw; obtain ⟨s0, s1⟩ := hSw; go_simp); try with_reducible rfl
        try simp only [Act.put, List.setIfInBounds_toArray, List.set_cons_zero, List.set_cons_succ, Nat.zero_add]
        refine wpAnyX_take (i := 5) (v := ?_) rfl (by kernel_rfl) (by kernel_rfl) (by kernel_rfl) (by kernel_rfl) (fun _ _ _ h => h) (Or.inl ⟨by rfl, ?_⟩) (by assumption) ?_
        rotate_left 1
        · (intro w' hSw; obtain ⟨s0, s1⟩ := hSw; go_simp); try with_reducible rfl
        try simp only [Act.put, List.setIfInBounds_toArray, List.set_cons_zero, List.set_cons_succ, Nat.zero_add]
        refine wpAnyX_take (i := 6) (v := ?_) rfl (by kernel_rfl) (by kernel_rfl) (by kernel_rfl) (by kernel_rfl) (fun _ _ _ h => h) (Or.inl ⟨by rfl, ?_⟩) (by assumption) ?_
        rotate_left 1
        · (intro w' hSw; obtain ⟨s0, s1⟩ := hSw; go_simp); try with_reducible rfl
        try simp only [Act.put, List.setIfInBounds_toArray, List.set_cons_zero, List.set_cons_succ, Nat.zero_add]
        refine wpAnyX_take (i := 7) (v := ?_) rfl (by kernel_rfl) (by kernel_rfl) (by kernel_rfl) (by kernel_rfl) (fun _ _ _ h => h) (Or.inl ⟨by rfl, ?_⟩) (by assumption) ?_
        rotate_left 1
        · (intro w' hSw; obtain ⟨s0, s1⟩ := hSw; go_simp); try with_reducible rfl
        try simp only [Act.put, List.setIfInBounds_toArray, List.set_cons_zero, List.set_cons_succ, Nat.zero_add]
        refine wpAnyX_take (i := 9) (v := ?_) rfl (by kernel_rfl) (by kernel_rfl) (by kernel_rfl) (by kernel_rfl) (fun _ _ _ h => h) (Or.inl ⟨by rfl, ?_⟩) (by assumption) ?_
        rotate_left 1
        · (intro w' hSw; obtain ⟨s0, s1⟩ := hSw; go_simp); try with_reducible rfl
        try simp only [Act.put, List.setIfInBounds_toArray, List.set_cons_zero, List.set_cons_succ, Nat.zero_add]
        refine wpAnyX_take (i := 10) (v := ?_) rfl (by kernel_rfl) (by kernel_rfl) (by kernel_rfl) (by kernel_rfl) (fun _ _ _ h => h) (Or.inl ⟨by rfl, ?_⟩) (by assumption) ?_
        rotate_left 1
        · (intro w' hSw; obtain ⟨s0, s1⟩ := hSw; go_simp); try with_reducible rfl
        try simp only [Act.put, List.setIfInBounds_toArray, List.set_cons_zero, List.set_cons_succ, Nat.zero_add]
        have HE0 := Lib.hid (Below.refl W0.heap.size W0)
        refine wpAnyX_one (i := 1) rfl (by kernel_rfl) (fun K hK => ?_)
        go_simp
        refine (order_any X cx m W0 (fun b => b < p) (HFX.out _ (HB0.out.trans (HE0.out.mono HB0.out.size))) (HRXr.out _ (HB0.out.trans (HE0.out.mono HB0.out.size))) (fun x hx => (HZ.out x hx).1) (by omega)).mono ?_
        rintro _ v1 ⟨_, rfl, hown, hb⟩
        obtain ⟨A1, c1, rfl⟩ := hown.shape
        have HE1 := Lib.hid (HE0.out.trans (hb.mono HE0.out.size))
        have O11 := Lib.hid hown
        have HL1 := Lib.hid hb.size
        clear hown hb
        go_simp
        refine hK.out _ _ (fun _ => HSS.out _ HE1.out) ?_
        clear hK K
        try simp only [Act.put, List.setIfInBounds_toArray, List.set_cons_zero, List.set_cons_succ, Nat.zero_add]
        refine wpAnyX_one (i := 4) rfl (by kernel_rfl) (fun K hK => ?_)
        go_simp
        refine (belowA_any X cx m v1 (fun b => b < p) (HFX.out _ (HB0.out.trans (HE1.out.mono HB0.out.size))) (HRXr.out _ (HB0.out.trans (HE1.out.mono HB0.out.size))) (fun x hx => (HZ.out x hx).1) (by omega) id hid).mono ?_
        rintro _ v2 ⟨_, rfl, hown, hb⟩
        obtain ⟨A2, c2, rfl⟩ := hown.shape
        have HE2 := Lib.hid (HE1.out.trans (hb.mono HE1.out.size))
        have O12 := Lib.hid (O11.out.below hb)
        have O22 := Lib.hid hown
        have HL2 := Lib.hid hb.size
        clear hown hb
        go_simp
        refine hK.out _ _ (fun _ => HSS.out _ HE2.out) ?_
        clear hK K
        try simp only [Act.put, List.setIfInBounds_toArray, List.set_cons_zero, List.set_cons_succ, Nat.zero_add]
        refine wpAnyX_one (i := 8) rfl (by kernel_rfl) (fun K hK => ?_)
        go_simp
        refine (kidsA_any X cx m v2 (fun b => b < p) (HFX.out _ (HB0.out.trans (HE2.out.mono HB0.out.size))) (HRXr.out _ (HB0.out.trans (HE2.out.mono HB0.out.size))) (fun x hx => (HZ.out x hx).1) (by omega) id hid role).mono ?_
        rintro _ v3 ⟨_, rfl, hown, hb⟩
        obtain ⟨A3, c3, rfl⟩ := hown.shape
        have HE3 := Lib.hid (HE2.out.trans (hb.mono HE2.out.size))
        have O13 := Lib.hid (O12.out.below hb)
        have O23 := Lib.hid (O22.out.below hb)
        have O33 := Lib.hid hown
        have HL3 := Lib.hid hb.size
        clear hown hb
        go_simp
        refine hK.out _ _ (fun _ => HSS.out _ HE3.out) ?_
        clear hK K
        try simp only [Act.put, List.setIfInBounds_toArray, List.set_cons_zero, List.set_cons_succ, Nat.zero_add]
        refine wpAnyX_one (i := 11) rfl (by kernel_rfl) (fun K hK => ?_)
        go_simp
        refine (usersA_any X cx m v3 (fun b => b < p) (HFX.out _ (HB0.out.trans (HE3.out.mono HB0.out.size))) (HRXr.out _ (HB0.out.trans (HE3.out.mono HB0.out.size))) (fun x hx => (HZ.out x hx).1) (by omega) id hid).mono ?_
        rintro _ v4 ⟨_, rfl, hown, hb⟩
        obtain ⟨A4, c4, rfl⟩ := hown.shape
        have HE4 := Lib.hid (HE3.out.trans (hb.mono HE3.out.size))
        have O14 := Lib.hid (O13.out.below hb)
        have O24 := Lib.hid (O23.out.below hb)
        have O34 := Lib.hid (O33.out.below hb)
        have O44 := Lib.hid hown
        have HL4 := Lib.hid hb.size
        clear hown hb
        go_simp
        refine hK.out _ _ (fun _ => HSS.out _ HE4.out) ?_
        clear hK K
        try simp only [Act.put, List.setIfInBounds_toArray, List.set_cons_zero, List.set_cons_succ, Nat.zero_add]
        refine wpAnyX_one (i := 12) rfl (by kernel_rfl) (fun K hK => ?_)
        go_simp
        refine hK.out _ _ (fun _ => HSS.out _ HE4.out) ?_
        clear hK K
        try simp only [Act.put, List.setIfInBounds_toArray, List.set_cons_zero, List.set_cons_succ, Nat.zero_add]
        refine wpAnyX_one (i := 13) rfl (by kernel_rfl) (fun K hK => ?_)
        go_simp
        refine hK.out _ _ (fun _ => HSS.out _ HE4.out) ?_
        clear hK K
        try simp only [Act.put, List.setIfInBounds_toArray, List.set_cons_zero, List.set_cons_succ, Nat.zero_add]
        refine wpAnyX_one (i := 14) rfl (by kernel_rfl) (fun K hK => ?_)
        go_simp
        refine hK.out _ _ (fun _ => HSS.out _ HE4.out) ?_
        clear hK K
        try simp only [Act.put, List.setIfInBounds_toArray, List.set_cons_zero, List.set_cons_succ, Nat.zero_add]
        refine wpAnyX_one (i := 15) rfl (by kernel_rfl) (fun K hK => ?_)
        go_simp
        refine hK.out _ _ (fun h => absurd rfl h) ?_
        clear hK K
        try simp only [Act.put, List.setIfInBounds_toArray, List.set_cons_zero, List.set_cons_succ, Nat.zero_add]
        refine wpAnyX_done (by kernel_rfl) ?_ _
        have HBv := Lib.hid (HB0.out.trans (HE4.out.mono HB0.out.size))
        have HMv := Lib.hid (HM0.out.below HE4.out HM0.out.lt)
        have HXv := Lib.hid (HX0.out.below HE4.out HX0.out.lt)
        have HQv := Lib.hid (HQ0.out.below HE4.out HQ0.out.lt)
        have HCv := Lib.hid (HC0.out.trans (HE4.out.mono (Nat.le_of_lt HQ0.out.lt)))
        have HWB := Lib.hid (HB0.out.size)
        have HRM : Hid (∀ V, Below W.heap.size W V → (∀ b, b < w.heap.size → b < V.heap.size) ∧ RowOf 7 ENode V (fun b => b < w.heap.size) A m.nodes) := Lib.hid (fun V hV => ⟨fun b hb => by have := HBW.out.size; have := hV.size; omega, HRA.out _ (HBW.out.trans (hV.mono HBW.out.size))⟩)
        have HV := Lib.hid (Below.refl v4.heap.size v4)
        have m0 := HMv.out.cell 0; have m1 := HMv.out.cell 1
        simp at m0 m1
        clear hHeld O11 O12 O13 O22 O23 O33 HE1 HE2 HE3 HB0 HM0 HX0 HQ0 HC0 HSS
        go_wp2_with fail
        refine (rorder_any A c m v4 (fun b => b < w.heap.size) (HRM.out _ (HBv.out.trans (HV.out.mono HBv.out.size))).1 (HRM.out _ (HBv.out.trans (HV.out.mono HBv.out.size))).2 (fun x hx => (HZ.out x hx).1) (by omega)).mono ?_
        rintro _ r1 ⟨_, rfl, hown, hb⟩
        obtain ⟨B1, d1, rfl⟩ := hown.shape
        have HV' := Lib.hid (HV.out.trans (hb.mono HV.out.size))
        have RB := Lib.hid hown.row.1
        have RA := Lib.hid (O14.out.row.1.keep EInt.stays (Keep.below HV'.out (fun b h => h)) (F' := fun b => b < v4.heap.size) (fun _ h => h))
        have RL := Lib.hid O14.out.len
        clear hown hb m0 m1 HV
        go_wp2_with fail
        refine (ints_same A1 B1 c1 d1 (ordL m) r1 _ _ RA.out RB.out RL.out).mono ?_
        rintro _ s1 ⟨rfl, hb⟩
        have HV := Lib.hid (HV'.out.trans (hb.mono HV'.out.size))
        have hm := HMv.out.below HV.out HMv.out.lt
        have m0 := hm.cell 0; have m1 := hm.cell 1
        simp at m0 m1
        clear HV' RB RA RL hb hm
        go_wp2_with fail
        refine (rbelow_any A c m s1 (fun b => b < w.heap.size) (HRM.out _ (HBv.out.trans (HV.out.mono HBv.out.size))).1 (HRM.out _ (HBv.out.trans (HV.out.mono HBv.out.size))).2 (fun x hx => (HZ.out x hx).1) (by omega) id hid).mono ?_
        rintro _ r2 ⟨_, rfl, hown, hb⟩
        obtain ⟨B2, d2, rfl⟩ := hown.shape
        have HV' := Lib.hid (HV.out.trans (hb.mono HV.out.size))
        have RB := Lib.hid hown.row.1
        have RA := Lib.hid (O24.out.row.1.keep EInt.stays (Keep.below HV'.out (fun b h => h)) (F' := fun b => b < v4.heap.size) (fun _ h => h))
        have RL := Lib.hid O24.out.len
        clear hown hb m0 m1 HV
        go_wp2_with fail
        refine (ints_same A2 B2 c2 d2 (belR m id) r2 _ _ RA.out RB.out RL.out).mono ?_
        rintro _ s2 ⟨rfl, hb⟩
        have HV := Lib.hid (HV'.out.trans (hb.mono HV'.out.size))
        have hm := HMv.out.below HV.out HMv.out.lt
        have m0 := hm.cell 0; have m1 := hm.cell 1
        simp at m0 m1
        clear HV' RB RA RL hb hm
        go_wp2_with fail
        refine (rKids_any A c m s2 (fun b => b < w.heap.size) (HRM.out _ (HBv.out.trans (HV.out.mono HBv.out.size))).1 (HRM.out _ (HBv.out.trans (HV.out.mono HBv.out.size))).2 (fun x hx => (HZ.out x hx).1) (by omega) id hid role).mono ?_
        rintro _ r3 ⟨_, rfl, hown, hb⟩
        obtain ⟨B3, d3, rfl⟩ := hown.shape
        have HV' := Lib.hid (HV.out.trans (hb.mono HV.out.size))
        have RB := Lib.hid hown.row.1
        have RA := Lib.hid (O34.out.row.1.keep EInt.stays (Keep.below HV'.out (fun b h => h)) (F' := fun b => b < v4.heap.size) (fun _ h => h))
        have RL := Lib.hid O34.out.len
        clear hown hb m0 m1 HV
        go_wp2_with fail
        refine (ints_same A3 B3 c3 d3 (kidR m role id) r3 _ _ RA.out RB.out RL.out).mono ?_
        rintro _ s3 ⟨rfl, hb⟩
        have HV := Lib.hid (HV'.out.trans (hb.mono HV'.out.size))
        have hm := HMv.out.below HV.out HMv.out.lt
        have m0 := hm.cell 0; have m1 := hm.cell 1
        simp at m0 m1
        clear HV' RB RA RL hb hm
        go_wp2_with fail
        refine (usersR_any A c m s3 (fun b => b < w.heap.size) (HRM.out _ (HBv.out.trans (HV.out.mono HBv.out.size))).1 (HRM.out _ (HBv.out.trans (HV.out.mono HBv.out.size))).2 (fun x hx => (HZ.out x hx).1) (by omega) id).mono ?_
        rintro _ r4 ⟨_, rfl, hown, hb⟩
        obtain ⟨B4, d4, rfl⟩ := hown.shape
        have HV' := Lib.hid (HV.out.trans (hb.mono HV.out.size))
        have RB := Lib.hid hown.row.1
        have RA := Lib.hid (O44.out.row.1.keep EInt.stays (Keep.below HV'.out (fun b h => h)) (F' := fun b => b < v4.heap.size) (fun _ h => h))
        have RL := Lib.hid O44.out.len
        clear hown hb m0 m1 HV
        go_wp2_with fail
        refine (ints_same A4 B4 c4 d4 (usersR m id) r4 _ _ RA.out RB.out RL.out).mono ?_
        rintro _ s4 ⟨rfl, hb⟩
        have HV := Lib.hid (HV'.out.trans (hb.mono HV'.out.size))
        have hm := HMv.out.below HV.out HMv.out.lt
        have m0 := hm.cell 0; have m1 := hm.cell 1
        simp at m0 m1
        clear HV' RB RA RL hb hm
        have hx := HXv.out.below HV.out HXv.out.lt
        have x0 := hx.cell 0; have x1 := hx.cell 1
        simp at x0 x1
        clear hx
        go_wp2_with fail
        have HF := Lib.hid (HBv.out.trans (HV.out.mono HBv.out.size))
        refine (kept_any _ _ m s4 (fun b => b < p) (fun b => b < w.heap.size) (HFX.out _ HF.out) (HRM.out _ HF.out).1 (HLW.out.keep (Keep.below HF.out hFp) (fun _ h => h)) (HMA.out.keep (Keep.below (HBW.out.trans (HF.out.mono HBW.out.size)) (fun _ h => h)) (fun _ h => h)) hln).mono ?_
        rintro _ s5 ⟨rfl, hb⟩
        have HV5 := Lib.hid (HV.out.trans (hb.mono HV.out.size))
        have HF5 := Lib.hid (HBv.out.trans (HV5.out.mono HBv.out.size))
        clear hb m0 m1 x0 x1 HV HF
        have HQ5 := Lib.hid (HQv.out.below HV5.out HQv.out.lt)
        have a0 := HQ5.out.cell 0; have a1 := HQ5.out.cell 1; have a2 := HQ5.out.cell 2; have a3 := HQ5.out.cell 3; have a4 := HQ5.out.cell 4; have a5 := HQ5.out.cell 5; have a6 := HQ5.out.cell 6
        simp at a0 a1 a2 a3 a4 a5 a6
        go_wp2_with fail
        obtain ⟨g, hg⟩ : ∃ g, s5.heap.size = g := ⟨_, rfl⟩
        rw [hg]
        obtain ⟨u9, hu9⟩ : ∃ u : World, s5.alloc (.cells #[.int .i64 y.id, .string y.concept, .int .i64 y.parent, .string y.role, .slice P1 y.props.length cp1, .slice K1 y.kids.length ck1, .slice R1 y.refs.length cr1, .int .i64 0, .string ⟨#[]⟩, .int .i64 0, .string ⟨#[]⟩, .slice none 0 0, .slice A1 (ordL m).length c1, .slice none 0 0, .int .i64 0, .string ⟨#[]⟩, .int .i64 0, .string ⟨#[]⟩, .slice none 0 0, .slice A2 (belR m id).length c2, .slice none 0 0, .int .i64 0, .string ⟨#[]⟩, .int .i64 0, .string ⟨#[]⟩, .slice none 0 0, .slice A3 (kidR m role id).length c3, .slice none 0 0, .int .i64 0, .string ⟨#[]⟩, .int .i64 0, .string ⟨#[]⟩, .slice none 0 0, .slice A4 (usersR m id).length c4, .slice none 0 0] 38) = u := ⟨_, rfl⟩
        have HU9 : Hid (Below s5.heap.size s5 u9 ∧ u9.heap.size = g + 1) := Lib.hid ⟨by rw [← hu9]; exact (Below.refl _ _).alloc (Nat.le_refl _) _, by rw [← hu9, ← hg]; simp⟩
        have HG9 : Hid (Blk u9 g 38 (([rnOf y P1 K1 R1 cp1 ck1 cr1, rnKids (ordL m) A1 c1, rnKids (belR m id) A2 c2, rnKids (kidR m role id) A3 c3, rnKids (usersR m id) A4 c4]).flatMap (fun x => x.cells.toList)).toArray) := Lib.hid (by rw [← hu9, ← hg]; exact Blk.new _ _ _)
        rw [hu9]
        have HGE := Lib.hid (show s5.heap.size = g from hg)
        have HCC := Lib.hid (HCv.out.trans (HV5.out.mono (Nat.le_of_lt HQv.out.lt)))
        clear hu9 hg a0 a1 a2 a3 a4 a5 a6 HQ5
        have HFU := Lib.hid (HF5.out.trans (HU9.out.1.mono HF5.out.size))
        have hwr : WrAll W.heap.size u9.heap.size g ([rnOf y P1 K1 R1 cp1 ck1 cr1, rnKids (ordL m) A1 c1, rnKids (belR m id) A2 c2, rnKids (kidR m role id) A3 c3, rnKids (usersR m id) A4 c4]) u9 := by
          have e1 := HU9.out.2; have e2 := HGE.out; have e3 := HQv.out.lt; have e4 := HV5.out.size; have e5 := HWB.out
          have hq : q1 ≤ g := by omega
          have hu : q1 ≤ u9.heap.size := by omega
          have cc : Below w1.heap.size w1 u9 := by rw [← HQW.out]; exact HCC.out.trans (HU9.out.1.mono (by omega))
          have h1 := HL1.out; have h2 := HL2.out; have h3 := HL3.out; have h4 := HL4.out
          have kp : ∀ {A : Option Addr} {n c base : Nat} {l : List Int}, OwnI v4 base (.slice A n c) l → W.heap.size ≤ base → WrR 1 W.heap.size u9.heap.size g u9 A l.length := fun ho hb =>
            ((WrR.of_own (B := W.heap.size) (T := v4.heap.size) (g := v4.heap.size) ho hb (Nat.le_refl _) (Nat.le_refl _)).below (HV5.out.trans (HU9.out.1.mono (by omega)))).widen (by omega) (by omega)
          intro x hx
          simp only [List.mem_cons, List.not_mem_nil, or_false] at hx
          rcases hx with rfl | rfl | rfl | rfl | rfl
          · exact ⟨(HWP.out.below (by rw [HQW.out]; exact cc)).widen hu hq, (HWK.out.below (by rw [HQW.out]; exact cc)).widen hu hq, (HWR.out.below (by rw [HQW.out]; exact cc)).widen hu hq⟩
          · exact ⟨WrR.nil _, kp O14.out (by omega), WrR.nil _⟩
          · exact ⟨WrR.nil _, kp O24.out (by omega), WrR.nil _⟩
          · exact ⟨WrR.nil _, kp O34.out (by omega), WrR.nil _⟩
          · exact ⟨WrR.nil _, kp O44.out (by omega), WrR.nil _⟩
        refine (spoil_any 0 g 5 W.heap.size ([rnOf y P1 K1 R1 cp1 ck1 cr1, rnKids (ordL m) A1 c1, rnKids (belR m id) A2 c2, rnKids (kidR m role id) A3 c3, rnKids (usersR m id) A4 c4]) u9 HFU.out.size (by have := HF5.out.size; have := HGE.out; omega) (nodes_of HG9.out) hwr (fun x hx => ?_) (by show (5 : Nat) ≤ _; omega)).mono ?_
        · simp only [List.mem_cons, List.not_mem_nil, or_false] at hx
          rcases hx with rfl | rfl | rfl | rfl | rfl
          · exact ⟨YLEN.out.1, YLEN.out.2.1, YLEN.out.2.2⟩
          · exact ⟨Nat.zero_le _, O14.out.len, Nat.zero_le _⟩
          · exact ⟨Nat.zero_le _, O24.out.len, Nat.zero_le _⟩
          · exact ⟨Nat.zero_le _, O34.out.len, Nat.zero_le _⟩
          · exact ⟨Nat.zero_le _, O44.out.len, Nat.zero_le _⟩
        rintro _ v9 ⟨rfl, hb9⟩
        have HEND := Lib.hid (HFU.out.trans hb9)
        clear hwr hb9
        go_wp2
        go_roundg (2 - (t + 1))
        case measure => omega
        case rel => exact ⟨t + 1, by go_num, rfl, by omega, HEND.out⟩
      · have hlt' : ¬ (t : Int) < 2 := by omega
        go_wp2_with fail
        refine (kept_any _ _ m wr (fun b => b < p) (fun b => b < w.heap.size) (HFX.out _ HB.out) (fun b hb => by have := HBX.out.size; omega) (HLW.out.keep (Keep.below HB.out hFp) (fun _ h => h)) (HMA.out.keep (Keep.below HBX.out (fun _ h => h)) (fun _ h => h)) hln).mono ?_
        rintro _ s5 ⟨rfl, hb⟩
        have HEND := Lib.hid (HBX.out.trans (hb.mono HBX.out.size))
        clear hb m0 m1 x0 x1
        go_wp2
        go_ret
        exact ⟨rfl, HEND.out⟩
end Go.Proofs.Ytmafhaadcjgcbaa
