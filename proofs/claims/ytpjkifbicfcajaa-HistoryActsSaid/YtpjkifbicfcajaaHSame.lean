import Derived.Test.YtpjkifbicfcajaaHSpoil
import Derived.Test.YtpjkifbicfcajaaHNow
import Derived.Test.YtpjkifbicfcajaaRCopy
import Derived.Test.YtpjkifbicfcajaaASameRef
set_option linter.unusedSimpArgs false
set_option linter.unusedVariables false
/- a past is just that of the document's -/
namespace Go.Proofs.Ytpjkifbicfcajaa
open Go Go.RowKit

set_option maxRecDepth 100000 in
set_option maxHeartbeats 8000000 in
theorem hsame_any (p q : Nat) (P : APast) (w : World) (F : Nat → Prop) (hF : ∀ b, F b → b < w.heap.size) (h : IsPast w F p P) (hr : IsRPast w F q P) (hfit : P.Fits) (hz : ModAll P.here) :
    Calls Try.prog 25 #[.pointer (some ⟨p, 0, none⟩), .pointer (some ⟨q, 0, none⟩)] w fun e w' => e = .returned (.bool true) ∧ Below w.heap.size w w' := by
  have hplt := h.lt; have hqlt := hr.lt
  have HP := Lib.hid h; have HRP := Lib.hid hr
  have HNOW : Hid (∀ w', Below w.heap.size w w' → Calls Try.prog 32 #[.pointer (some ⟨p, 0, none⟩)] w' fun e w2 => ∃ v, e = .returned (.agg #[.int .i64 P.here.next, v]) ∧ ∃ l, OwnM w2 w'.heap.size v l ∧ l.map LN.n = P.here.nodes ∧ Below w'.heap.size w' w2) := Lib.hid (fun w' hb => now_any p P w' F (fun b hx => Nat.lt_of_lt_of_le (hF b hx) hb.size) (h.below hb hF) hz)
  have HDEP : Hid (∀ w', Below w.heap.size w w' → Calls Try.prog 33 #[.pointer (some ⟨p, 0, none⟩)] w' fun e w2 => e = .returned (.tuple #[.int .i64 P.ahead.length, .int .i64 P.behind.length]) ∧ Below w'.heap.size w' w2) := Lib.hid (fun w' hb => by
    obtain ⟨A, c, hbk, _⟩ := h.below hb hF
    have := depth_any p P.list.length c P.ahead.length A w' hbk (now_lt P) hfit
    rw [show P.list.length - 1 - P.ahead.length = P.behind.length by rw [P.list_len]; omega] at this
    exact this)
  have HREF : Hid (∀ w', Below w.heap.size w w' → ∃ A c X cx B d, Blk w' q 49 #[.slice A P.ahead.length c, .int .i64 P.here.next, .slice X P.here.nodes.length cx, .slice B P.behind.length d] ∧ RowOf 7 ENode w' F X P.here.nodes) := Lib.hid (fun w' hb => by
    obtain ⟨A, c, X, cx, B, d, hbk, _, _, _, _, rx, _⟩ := (hr.below hb hF).opened
    exact ⟨A, c, X, cx, B, d, hbk, rx⟩)
  clear h hr
  go_enter Try.func25, Try.ntmps25
  go_wp2_with fail
  refine (HNOW.out w (Below.refl _ _)).mono ?_
  rintro _ w1 ⟨v, rfl, l, hown, hmap, hb⟩
  have HB1 := Lib.hid hb
  have HO1 := Lib.hid hown; have HMAP := Lib.hid hmap
  have hlen : l.length ≤ 1172812402926 := by have := hz.2.2; rw [← hmap, List.length_map] at this; exact this
  have hnl : P.here.nodes.length = l.length := by rw [← hmap, List.length_map]
  have HNL := Lib.hid hnl
  obtain ⟨Av, cv, rfl⟩ := own_shape hown.row
  clear hown hmap hb hnl
  obtain ⟨p5, hp5⟩ : ∃ x, w1.heap.size = x := ⟨_, rfl⟩
  have hp5w : w.heap.size ≤ p5 := by have := HB1.out.size; omega
  have HWE : Hid (∃ z, w1.alloc (.cells #[.int .i64 P.here.next, .slice Av l.length cv] 27) = z) := Lib.hid ⟨_, rfl⟩
  go_upto_region 2 with fail
  obtain ⟨w2, hw2⟩ := HWE.out
  have HX5 : Hid (Blk w2 p5 27 #[.int .i64 P.here.next, .slice Av l.length cv]) := Lib.hid (by rw [← hw2]; exact Blk.new' hp5.symm)
  have HB12 : Hid (Below w1.heap.size w1 w2) := Lib.hid (by rw [← hw2]; exact (Below.refl _ _).alloc (Nat.le_refl _) _)
  (try rw [hp5])
  (try rw [hw2])
  clear HWE hw2
  have HB2 := Lib.hid (HB1.out.trans (HB12.out.mono HB1.out.size))
  go_wp2_with fail
  refine (HDEP.out w2 HB2.out).mono ?_
  rintro _ w3 ⟨rfl, hb⟩
  have HX3 := Lib.hid (HX5.out.below hb HX5.out.lt)
  have HB13 := Lib.hid (HB12.out.trans (hb.mono HB12.out.size))
  have HB3 := Lib.hid (HB2.out.trans (hb.mono HB2.out.size))
  clear hb HB12 HB2 HX5
  obtain ⟨A, c, X, cx, B, d, hbk, rx⟩ := HREF.out w3 HB3.out
  have HRX := Lib.hid rx
  have m0 := HX3.out.cell 0; have m1 := HX3.out.cell 1
  have q0 := hbk.cell 0; have q1 := hbk.cell 1; have q2 := hbk.cell 2; have q3 := hbk.cell 3
  have hxlt := HX3.out.lt; have hq3 := hbk.lt
  simp at m0 m1 q0 q1 q2 q3
  clear hbk rx
  go_wp2_with fail
  have CS := Lib.hid (fun (d : Nat) (os : Array Obj) => Calls.regrown_of (w := w3) (d := d) (os := os) (by
    have hbr := below_regrown w3 d os
    have ho := (HO1.out.below (HB13.out.trans (hbr.mono HB13.out.size))).isRow (F := fun b => b < (Sort.grow (redrawn w3 d) os).heap.size) (fun b h1 h2 => h2)
    rw [HMAP.out] at ho
    have := res_is (eqB_yes (rfl : P.here = P.here)) (same_any Av X cv cx P.here P.here (Sort.grow (redrawn w3 d) os) (fun b => b < (Sort.grow (redrawn w3 d) os).heap.size) F (fun b hx => hx) (fun b hx => Nat.lt_of_lt_of_le (hF b hx) (by have := HB3.out.size; have := hbr.size; omega)) ho.row (HRX.out.keep ENode.stays (Keep.below hbr (fun b hx => Nat.lt_of_lt_of_le (hF b hx) HB3.out.size)) (fun _ h => h)) (by rw [HNL.out]; omega))
    rw [HNL.out] at this
    exact this))
  rw [HNL.out] at q2
  have k0 := cell_regrown m0; have k1 := cell_regrown m1; have k2 := cell_regrown q0; have k3 := cell_regrown q1; have k4 := cell_regrown q2; have k5 := cell_regrown q3
  clear m0 m1 q0 q1 q2 q3
  refine wp_region_quiet_below (by kernel_rfl) (by kernel_rfl) ?_
  repeat (first | go_big_quiet_step (exact CS.out _ _) | quiet_step (exact CS.out _ _))
  refine wpQuiet_nil ?_
  intro _ hw'
  obtain ⟨⟨dq, osq⟩, hw''⟩ := hw'
  subst hw''
  clear k0 k1 k2 k3 k4 k5 CS
  obtain ⟨w4, hw4⟩ : ∃ x, Sort.grow (redrawn w3 dq) osq = x := ⟨_, rfl⟩
  have HX : Hid (Below w3.heap.size w3 w4) := Lib.hid (by rw [← hw4]; exact below_regrown w3 dq osq)
  rw [hw4]
  clear hw4
  have HX4 := Lib.hid (HX3.out.below HX.out hxlt)
  have HB14 := Lib.hid (HB13.out.trans (HX.out.mono HB13.out.size))
  clear HX HB13 HX3 HB3 hxlt hq3 HRX
  by_cases h0 : l.length = 0
  · have m0 := HX4.out.cell 0; have m1 := HX4.out.cell 1
    have hmlt := HX4.out.lt
    simp at m0 m1
    have hl0 : l.length = 0 := h0
    rw [hl0] at m1
    have HBW4 := Lib.hid (HB1.out.trans (HB14.out.mono HB1.out.size))
    go_wp2_with fail
    go_loopg [8, 9] 0 (fun n s8 s9 wx => s8 = .int .i64 0 ∧ wx = w4)
    case atStart => exact ⟨rfl, rfl⟩
    case round =>
      obtain ⟨rfl, hwr⟩ := hrel
      obtain ⟨wy, hwy⟩ : ∃ x, x = w4 := ⟨_, rfl⟩
      subst hwy
      subst hwr
      have HBW := HBW4
      clear HBW4
      go_wp2_with fail
      obtain ⟨A, c, X, cx, B, d, hbk, rx⟩ := HREF.out _ HBW.out
      have HRX := Lib.hid rx
      have HBK := Lib.hid hbk
      clear hbk rx
      obtain ⟨u, hu⟩ : ∃ u : World, wr.drew = u := ⟨_, rfl⟩
      have HU : Hid (Below wr.heap.size wr u) := Lib.hid (by rw [← hu]; exact (Below.refl _ _).drew)
      have HBU := Lib.hid (HBW.out.trans (HU.out.mono HBW.out.size))
      have HQU := Lib.hid (HBK.out.below HU.out HBK.out.lt)
      have HRU := Lib.hid (HRX.out.keep ENode.stays (Keep.below HU.out (fun b hx => Nat.lt_of_lt_of_le (hF b hx) HBW.out.size)) (fun _ h => h))
      have HSS : Hid (∀ w', Blk w' q 49 #[.slice A P.ahead.length c, .int .i64 P.here.next, .slice X P.here.nodes.length cx, .slice B P.behind.length d] → (fun w' : World => w'.cell? ⟨q, 1, none⟩ = some (.int .i64 P.here.next) ∧ w'.cell? ⟨q, 2, none⟩ = some (.slice X P.here.nodes.length cx)) w') := Lib.hid (fun w' h1 => by
        have m1 := h1.cell 1; have m2 := h1.cell 2
        simp at m1 m2
        exact ⟨m1, m2⟩)
      refine wp_region_Y (S := (fun w' : World => w'.cell? ⟨q, 1, none⟩ = some (.int .i64 P.here.next) ∧ w'.cell? ⟨q, 2, none⟩ = some (.slice X P.here.nodes.length cx))) 7 (by kernel_rfl) (by rw [hu]; exact HSS.out _ HQU.out) (fun hHeld => ?_)
      rw [hu] at hHeld ⊢
      clear hu HU HBK HRX
      refine wpAnyY_take (i := 0) (v := ?_) rfl (by kernel_rfl) (by kernel_rfl) (by kernel_rfl) (by kernel_rfl) (fun _ _ _ h => h) (Or.inl ⟨by rfl, ?_⟩) (by assumption) ?_
      rotate_left 1
      · (intro w' hSw; obtain ⟨s0, s1⟩ := hSw; go_simp); try with_reducible rfl
      try simp only [Act.put, List.setIfInBounds_toArray, List.set_cons_zero, List.set_cons_succ, Nat.zero_add]
      refine wpAnyY_take (i := 2) (v := ?_) rfl (by kernel_rfl) (by kernel_rfl) (by kernel_rfl) (by kernel_rfl) (fun _ _ _ h => h) (Or.inl ⟨by rfl, ?_⟩) (by assumption) ?_
      rotate_left 1
      · (intro w' hSw; obtain ⟨s0, s1⟩ := hSw; go_simp); try with_reducible rfl
      try simp only [Act.put, List.setIfInBounds_toArray, List.set_cons_zero, List.set_cons_succ, Nat.zero_add]
      refine wpAnyY_take (i := 3) (v := ?_) rfl (by kernel_rfl) (by kernel_rfl) (by kernel_rfl) (by kernel_rfl) (fun _ _ _ h => h) (Or.inl ⟨by rfl, ?_⟩) (by assumption) ?_
      rotate_left 1
      · (intro w' hSw; obtain ⟨s0, s1⟩ := hSw; go_simp); try with_reducible rfl
      try simp only [Act.put, List.setIfInBounds_toArray, List.set_cons_zero, List.set_cons_succ, Nat.zero_add]
      refine wpAnyY_take (i := 4) (v := ?_) rfl (by kernel_rfl) (by kernel_rfl) (by kernel_rfl) (by kernel_rfl) (fun _ _ _ h => h) (Or.inl ⟨by rfl, ?_⟩) (by assumption) ?_
      rotate_left 1
      · (intro w' hSw; obtain ⟨s0, s1⟩ := hSw; go_simp); try with_reducible rfl
      try simp only [Act.put, List.setIfInBounds_toArray, List.set_cons_zero, List.set_cons_succ, Nat.zero_add]
      refine wpAnyY_take (i := 5) (v := ?_) rfl (by kernel_rfl) (by kernel_rfl) (by kernel_rfl) (by kernel_rfl) (fun _ _ _ h => h) (Or.inl ⟨by rfl, ?_⟩) (by assumption) ?_
      rotate_left 1
      · (intro w' hSw; obtain ⟨s0, s1⟩ := hSw; go_simp); try with_reducible rfl
      try simp only [Act.put, List.setIfInBounds_toArray, List.set_cons_zero, List.set_cons_succ, Nat.zero_add]
      refine wpAnyY_one (i := 1) rfl (by kernel_rfl) (fun K hK => ?_)
      go_simp
      refine (HNOW.out u HBU.out).mono ?_
      rintro _ w6 ⟨v6, rfl, l6, hown, hmap, hb⟩
      have HB6 := Lib.hid (HBU.out.trans (hb.mono HBU.out.size))
      have HQ6 := Lib.hid (HQU.out.below hb HQU.out.lt)
      have HR6 := Lib.hid (HRU.out.keep ENode.stays (Keep.below hb (fun b hx => Nat.lt_of_lt_of_le (hF b hx) HBU.out.size)) (fun _ h => h))
      have HO6 := Lib.hid (hown.isRow (F := fun b => b < w6.heap.size) (fun b h1 h2 => h2))
      have HL6 := Lib.hid hmap
      obtain ⟨A6, c6, rfl⟩ : ∃ A c, v6 = .slice A P.here.nodes.length c := by
        obtain ⟨A', c', e⟩ := own_shape hown.row
        exact ⟨A', c', by rw [e, ← hmap, List.length_map]⟩
      clear hown hmap hb
      go_simp
      refine hK.out _ _ (fun _ => HSS.out _ HQ6.out) ?_
      have hHeld6 := HSS.out _ HQ6.out
      clear hK K
      try simp only [Act.put, List.setIfInBounds_toArray, List.set_cons_zero, List.set_cons_succ, Nat.zero_add]
      refine wpAnyY_one (i := 6) rfl (by kernel_rfl) (fun K hK => ?_)
      go_simp
      refine (res_is (eqB_yes (rfl : P.here = P.here)) (same_any A6 X c6 cx P.here P.here w6 (fun b => b < w6.heap.size) F (fun b hx => hx) (fun b hx => Nat.lt_of_lt_of_le (hF b hx) HB6.out.size) (by have := HO6.out; rw [HL6.out] at this; exact this.row) HR6.out (by rw [HNL.out]; omega))).mono ?_
      rintro _ w7 ⟨rfl, hb⟩
      have HB7 := Lib.hid (HB6.out.trans (hb.mono HB6.out.size))
      have HQ7 := Lib.hid (HQ6.out.below hb HQ6.out.lt)
      clear hb
      go_simp
      refine hK.out _ _ (fun _ => HSS.out _ HQ7.out) ?_
      have hHeld7 := HSS.out _ HQ7.out
      clear hK K
      try simp only [Act.put, List.setIfInBounds_toArray, List.set_cons_zero, List.set_cons_succ, Nat.zero_add]
      refine wpAnyY_one0 (i := 7) rfl (by kernel_rfl) (by kernel_rfl) (fun K hK => ?_)
      go_simp
      refine hK.out _ _ ?_
      clear hK K
      try simp only [Act.put, List.setIfInBounds_toArray, List.set_cons_zero, List.set_cons_succ, Nat.zero_add]
      refine wpAnyY_done (by kernel_rfl) ?_ _
      go_wp2
      go_ret
      exact ⟨by simp, HB7.out⟩
  · obtain ⟨g, cap, e0, hcap1, hcap2, hg1, hg2⟩ := own_some HO1.out.row (by omega)
    injection e0 with e1 _ e2
    subst e1; subst e2
    obtain ⟨O, hO⟩ : ∃ O : Nat → Prop, (fun b => some b ∈ allBlocks l) = O := ⟨_, rfl⟩
    have HS : Hid (Spo O w1 g p5 #[.int .i64 P.here.next, .slice (some ⟨g, 0, none⟩) l.length cv] l 0 w4) := Lib.hid (by
      rw [← hO]
      exact ⟨(KeepO.refl _ _).below HB14.out, HX4.out, by omega, HO1.out.nodesF.below HB14.out (by omega), HO1.out.wr.below HB14.out, fun hb => by
        obtain ⟨x, hx, hb⟩ := List.mem_flatMap.1 hb
        exact HO1.out.row_ne hx hb rfl, by omega, fun b hb => (HO1.out.lt b (List.mem_cons_of_mem _ hb)).2⟩)
    have HOW : Hid (∀ b, O b ∨ b = g → w.heap.size ≤ b) := Lib.hid (fun b hb => by
      rcases hb with hb | hb
      · rw [← hO] at hb; exact (HO1.out.lt b (List.mem_cons_of_mem _ hb)).1
      · omega)
    have HBW1 := Lib.hid HB1.out
    clear hO hcap1 hcap2 hg2 HB14 HX4 HO1 HMAP
    have m1 := HS.out.box.cell 1
    have hmlt := HS.out.box.lt
    simp at m1
    go_wp2_with fail
    clear m1 hmlt
    go_loopg [8, 9] l.length (fun n s8 s9 wx => ∃ i : Nat, s8 = .int .i64 i ∧ n = l.length - i ∧ i ≤ l.length ∧ Spo O w1 g p5 #[.int .i64 P.here.next, .slice (some ⟨g, 0, none⟩) l.length cv] l i wx)
    case atStart => exact ⟨0, rfl, rfl, Nat.zero_le _, HS.out⟩
    case round =>
      clear HS
      obtain ⟨i, rfl, rfl, hil, hs⟩ := hrel
      have HS := Lib.hid hs
      clear hs
      have m1 := HS.out.box.cell 1
      have hmlt := HS.out.box.lt
      simp at m1
      by_cases hlt : i < l.length
      · have hlt' : (i : Int) < l.length := by omega
        have i0 : (0 : Int) ≤ i := by omega
        have HWR : Hid (l[i].Wr O wr) := Lib.hid (HS.out.wr _ (List.getElem_mem hlt))
        have HAT : Hid (∀ wy, Spo O w1 g p5 #[.int .i64 P.here.next, .slice (some ⟨g, 0, none⟩) l.length cv] l i wy → (∀ j, j < 7 → wy.cell? ⟨g, i * 7 + j, none⟩ = l[i].cells[j]?) ∧ (∀ j, wy.frozen? ⟨g, j, none⟩ = false) ∧ l[i].Wr O wy) := Lib.hid (fun wy h => ⟨(h.nodes.at_ hlt).1, (h.nodes.at_ hlt).2, h.wr _ (List.getElem_mem hlt)⟩)
        obtain ⟨x, hx⟩ : ∃ x, l[i] = x := ⟨_, rfl⟩
        rw [hx] at HAT HWR
        clear hx
        obtain ⟨⟨P0, np, ep, hp, _⟩, ⟨K, nk, ek, hk, _⟩, ⟨R, nr, er, hr, _⟩⟩ := HWR.out
        clear HWR
        obtain ⟨xn, xp, xk, xr⟩ := x
        simp only at ep ek er hp hk hr
        subst ep; subst ek; subst er
        unfold maxLen at hp hk hr
        go_wp2_with fail
        clear m1 hmlt
        go_loopg [9] xn.kids.length (fun n s9 wx => ∃ k : Nat, s9 = .int .i64 k ∧ n = xn.kids.length - k ∧ k ≤ xn.kids.length ∧ Spo O w1 g p5 #[.int .i64 P.here.next, .slice (some ⟨g, 0, none⟩) l.length cv] l i wx)
        case atStart => exact ⟨0, rfl, rfl, Nat.zero_le _, HS.out⟩
        case round =>
          clear HS
          obtain ⟨k, rfl, rfl, hkl, hs⟩ := hrel
          have HS := Lib.hid hs
          clear hs
          have m1 := HS.out.box.cell 1
          have hmlt := HS.out.box.lt
          simp at m1
          obtain ⟨hcs, hfz, hwr⟩ := HAT.out _ HS.out
          have d5 := hcs 5 (by omega)
          simp [LN.cells, nodeCellsA] at d5
          clear hcs hfz
          by_cases hkt : k < xn.kids.length
          · have hkt' : (k : Int) < xn.kids.length := by omega
            have k0 : (0 : Int) ≤ k := by omega
            obtain ⟨A0, c0, e0, _, hw0⟩ := hwr.2.1
            injection e0 with e1 _ e2
            subst e1; subst e2
            obtain ⟨b, off, hA, hbO, hbT, hc⟩ := hw0 k hkt
            clear hwr hw0
            subst hA
            have HBO : Hid (O b) := Lib.hid hbO
            have hc0 := hc 0 (by omega)
            obtain ⟨y0, hy0⟩ := Option.isSome_iff_exists.1 hc0.1
            have hz0 := hc0.2
            (try simp only [Nat.mul_one, Nat.add_zero] at hy0 hz0)
            clear hc0 hc hbO
            go_wp2
            go_roundg (xn.kids.length - (k + 1))
            case measure => omega
            case rel => exact ⟨k + 1, by go_num, rfl, by omega, HS.out.put HBO.out _ _⟩
          · have hkt' : ¬ (k : Int) < xn.kids.length := by omega
            clear hwr hkl
            clear d5
            obtain ⟨hcs, hfz, hwr⟩ := HAT.out _ HS.out
            have d0 := hcs 0 (by omega); have d1 := hcs 1 (by omega); have d2 := hcs 2 (by omega); have d3 := hcs 3 (by omega); have d4 := hcs 4 (by omega); have d5 := hcs 5 (by omega); have d6 := hcs 6 (by omega)
            have z0 := hfz (i * 7); have z1 := hfz (i * 7 + 1); have z2 := hfz (i * 7 + 2); have z3 := hfz (i * 7 + 3); have z4 := hfz (i * 7 + 4); have z5 := hfz (i * 7 + 5); have z6 := hfz (i * 7 + 6)
            simp [LN.cells, nodeCellsA] at d0 d1 d2 d3 d4 d5 d6
            clear hcs hfz hwr
            go_wp2
            go_roundg (l.length - (i + 1))
            case measure => omega
            case rel => exact ⟨i + 1, by go_num, rfl, by omega, HS.out.head _ _ _ _ _ _ _⟩
      · have hlt' : ¬ (i : Int) < l.length := by omega
        have HBW : Hid (Below w.heap.size w wr) := Lib.hid (HBW1.out.trans (HS.out.keep.toBelow HBW1.out.size HOW.out))
        go_wp2_with fail
        clear m1 hmlt HS
        obtain ⟨A, c, X, cx, B, d, hbk, rx⟩ := HREF.out _ HBW.out
        have HRX := Lib.hid rx
        have HBK := Lib.hid hbk
        clear hbk rx
        obtain ⟨u, hu⟩ : ∃ u : World, wr.drew = u := ⟨_, rfl⟩
        have HU : Hid (Below wr.heap.size wr u) := Lib.hid (by rw [← hu]; exact (Below.refl _ _).drew)
        have HBU := Lib.hid (HBW.out.trans (HU.out.mono HBW.out.size))
        have HQU := Lib.hid (HBK.out.below HU.out HBK.out.lt)
        have HRU := Lib.hid (HRX.out.keep ENode.stays (Keep.below HU.out (fun b hx => Nat.lt_of_lt_of_le (hF b hx) HBW.out.size)) (fun _ h => h))
        have HSS : Hid (∀ w', Blk w' q 49 #[.slice A P.ahead.length c, .int .i64 P.here.next, .slice X P.here.nodes.length cx, .slice B P.behind.length d] → (fun w' : World => w'.cell? ⟨q, 1, none⟩ = some (.int .i64 P.here.next) ∧ w'.cell? ⟨q, 2, none⟩ = some (.slice X P.here.nodes.length cx)) w') := Lib.hid (fun w' h1 => by
          have m1 := h1.cell 1; have m2 := h1.cell 2
          simp at m1 m2
          exact ⟨m1, m2⟩)
        refine wp_region_Y (S := (fun w' : World => w'.cell? ⟨q, 1, none⟩ = some (.int .i64 P.here.next) ∧ w'.cell? ⟨q, 2, none⟩ = some (.slice X P.here.nodes.length cx))) 7 (by kernel_rfl) (by rw [hu]; exact HSS.out _ HQU.out) (fun hHeld => ?_)
        rw [hu] at hHeld ⊢
        clear hu HU HBK HRX
        refine wpAnyY_take (i := 0) (v := ?_) rfl (by kernel_rfl) (by kernel_rfl) (by kernel_rfl) (by kernel_rfl) (fun _ _ _ h => h) (Or.inl ⟨by rfl, ?_⟩) (by assumption) ?_
        rotate_left 1
        · (intro w' hSw; obtain ⟨s0, s1⟩ := hSw; go_simp); try with_reducible rfl
        try simp only [Act.put, List.setIfInBounds_toArray, List.set_cons_zero, List.set_cons_succ, Nat.zero_add]
        refine wpAnyY_take (i := 2) (v := ?_) rfl (by kernel_rfl) (by kernel_rfl) (by kernel_rfl) (by kernel_rfl) (fun _ _ _ h => h) (Or.inl ⟨by rfl, ?_⟩) (by assumption) ?_
        rotate_left 1
        · (intro w' hSw; obtain ⟨s0, s1⟩ := hSw; go_simp); try with_reducible rfl
        try simp only [Act.put, List.setIfInBounds_toArray, List.set_cons_zero, List.set_cons_succ, Nat.zero_add]
        refine wpAnyY_take (i := 3) (v := ?_) rfl (by kernel_rfl) (by kernel_rfl) (by kernel_rfl) (by kernel_rfl) (fun _ _ _ h => h) (Or.inl ⟨by rfl, ?_⟩) (by assumption) ?_
        rotate_left 1
        · (intro w' hSw; obtain ⟨s0, s1⟩ := hSw; go_simp); try with_reducible rfl
        try simp only [Act.put, List.setIfInBounds_toArray, List.set_cons_zero, List.set_cons_succ, Nat.zero_add]
        refine wpAnyY_take (i := 4) (v := ?_) rfl (by kernel_rfl) (by kernel_rfl) (by kernel_rfl) (by kernel_rfl) (fun _ _ _ h => h) (Or.inl ⟨by rfl, ?_⟩) (by assumption) ?_
        rotate_left 1
        · (intro w' hSw; obtain ⟨s0, s1⟩ := hSw; go_simp); try with_reducible rfl
        try simp only [Act.put, List.setIfInBounds_toArray, List.set_cons_zero, List.set_cons_succ, Nat.zero_add]
        refine wpAnyY_take (i := 5) (v := ?_) rfl (by kernel_rfl) (by kernel_rfl) (by kernel_rfl) (by kernel_rfl) (fun _ _ _ h => h) (Or.inl ⟨by rfl, ?_⟩) (by assumption) ?_
        rotate_left 1
        · (intro w' hSw; obtain ⟨s0, s1⟩ := hSw; go_simp); try with_reducible rfl
        try simp only [Act.put, List.setIfInBounds_toArray, List.set_cons_zero, List.set_cons_succ, Nat.zero_add]
        refine wpAnyY_one (i := 1) rfl (by kernel_rfl) (fun K hK => ?_)
        go_simp
        refine (HNOW.out u HBU.out).mono ?_
        rintro _ w6 ⟨v6, rfl, l6, hown, hmap, hb⟩
        have HB6 := Lib.hid (HBU.out.trans (hb.mono HBU.out.size))
        have HQ6 := Lib.hid (HQU.out.below hb HQU.out.lt)
        have HR6 := Lib.hid (HRU.out.keep ENode.stays (Keep.below hb (fun b hx => Nat.lt_of_lt_of_le (hF b hx) HBU.out.size)) (fun _ h => h))
        have HO6 := Lib.hid (hown.isRow (F := fun b => b < w6.heap.size) (fun b h1 h2 => h2))
        have HL6 := Lib.hid hmap
        obtain ⟨A6, c6, rfl⟩ : ∃ A c, v6 = .slice A P.here.nodes.length c := by
          obtain ⟨A', c', e⟩ := own_shape hown.row
          exact ⟨A', c', by rw [e, ← hmap, List.length_map]⟩
        clear hown hmap hb
        go_simp
        refine hK.out _ _ (fun _ => HSS.out _ HQ6.out) ?_
        have hHeld6 := HSS.out _ HQ6.out
        clear hK K
        try simp only [Act.put, List.setIfInBounds_toArray, List.set_cons_zero, List.set_cons_succ, Nat.zero_add]
        refine wpAnyY_one (i := 6) rfl (by kernel_rfl) (fun K hK => ?_)
        go_simp
        refine (res_is (eqB_yes (rfl : P.here = P.here)) (same_any A6 X c6 cx P.here P.here w6 (fun b => b < w6.heap.size) F (fun b hx => hx) (fun b hx => Nat.lt_of_lt_of_le (hF b hx) HB6.out.size) (by have := HO6.out; rw [HL6.out] at this; exact this.row) HR6.out (by rw [HNL.out]; omega))).mono ?_
        rintro _ w7 ⟨rfl, hb⟩
        have HB7 := Lib.hid (HB6.out.trans (hb.mono HB6.out.size))
        have HQ7 := Lib.hid (HQ6.out.below hb HQ6.out.lt)
        clear hb
        go_simp
        refine hK.out _ _ (fun _ => HSS.out _ HQ7.out) ?_
        have hHeld7 := HSS.out _ HQ7.out
        clear hK K
        try simp only [Act.put, List.setIfInBounds_toArray, List.set_cons_zero, List.set_cons_succ, Nat.zero_add]
        refine wpAnyY_one0 (i := 7) rfl (by kernel_rfl) (by kernel_rfl) (fun K hK => ?_)
        go_simp
        refine hK.out _ _ ?_
        clear hK K
        try simp only [Act.put, List.setIfInBounds_toArray, List.set_cons_zero, List.set_cons_succ, Nat.zero_add]
        refine wpAnyY_done (by kernel_rfl) ?_ _
        go_wp2
        go_ret
        exact ⟨by simp, HB7.out⟩
end Go.Proofs.Ytpjkifbicfcajaa
