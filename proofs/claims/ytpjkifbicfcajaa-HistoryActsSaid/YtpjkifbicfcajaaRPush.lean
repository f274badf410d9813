/- the document's push -/
import Derived.Test.YtpjkifbicfcajaaRUndo
import Derived.Test.YtpjkifbicfcajaaHPush
import Derived.Test.YtpjkifbicfcajaaASameRef
set_option linter.unusedSimpArgs false
set_option linter.unusedVariables false
namespace Go.Proofs.Ytpjkifbicfcajaa
open Go Go.RowKit

open Classical in
theorem right_check (m : AModel) : (checkI m = 0 → rightM m = true) ∧ (checkI m = 29 → rightM m = false) := by
  by_cases h : CheckM m
  · exact ⟨fun _ => rightM_yes (check_iff.1 h), fun e => by unfold checkI at e; rw [decide_eq_true h] at e; cases e⟩
  · exact ⟨fun e => (by rw [checkI_no h] at e; cases e), fun _ => rightM_no (fun e => h (check_iff.2 e))⟩
theorem KeepO.after {O : Nat → Prop} {a w w' : World} (hb : Below a.heap.size a w) (h : KeepO O w w') : KeepO O a w' :=
  ⟨h.os.trans hb.os, h.tape.trans hb.tape, h.output.trans hb.output, Nat.le_trans hb.size h.size, fun k hk hn => (h.block k (Nat.lt_of_lt_of_le hk hb.size) hn).trans (hb.block k hk)⟩

set_option maxRecDepth 100000 in
set_option maxHeartbeats 8000000 in
theorem rpush_any (p : Nat) (P : APast) (Am : Option Addr) (cm : Nat) (m : AModel) (w : World) (F F2 : Nat → Prop) (hF : ∀ b, F b → b < w.heap.size) (hF2 : ∀ b, F2 b → b < w.heap.size) (hpF : ¬ F p) (hpF2 : ¬ F2 p) (h : IsRPast w F p P) (hfit : P.Fits)
    (hm : RowOf 7 ENode w F2 Am m.nodes) (hzm : ModAll m) :
    Calls Try.prog 17 #[.pointer (some ⟨p, 0, none⟩), .agg #[.int .i64 m.next, .slice Am m.nodes.length cm]] w fun e w' => RPost w w' F p (pushP P m) e := by
  have hfit' : P.ahead.length + 1 + P.behind.length ≤ 65 := by rw [← P.list_len]; exact hfit
  have HPAST : Hid (∀ w', Below w.heap.size w w' → IsRPast w' (fun b => F b ∨ (w.heap.size ≤ b ∧ b < w'.heap.size)) p P) := Lib.hid (fun w' hb' => (h.below hb' hF).keep (Keep.refl _ _) (fun _ h => .inl h) rfl)
  obtain ⟨A, c, X, cx, B, d, hb, hc, hcx, hd, ra, rx, rb⟩ := h.opened
  have hplt := hb.lt
  have HRA0 := Lib.hid ra; have HRX0 := Lib.hid rx; have HMM := Lib.hid hm
  have HCX := Lib.hid hcx
  have HPB := Lib.hid hb
  clear h hfit hb hc hcx hd ra rx rb hm
  rcases checkI_two m with hE | hE
  · by_cases hsame : m = P.here
    · rw [pushP_same hE hsame]
      have HSM := Lib.hid hsame
      clear hsame
      have HRT : Hid (∀ w', Below w.heap.size w w' → Calls Try.prog 40 #[.agg #[.int .i64 m.next, .slice Am m.nodes.length cm]] w' fun e w2 => e = .returned (.bool true) ∧ Below w'.heap.size w' w2) := Lib.hid (fun w' hb => by
        have := right_any Am cm m w' F2 (fun b hx => Nat.lt_of_lt_of_le (hF2 b hx) hb.size) (HMM.out.keep ENode.stays (Keep.below hb hF2) (fun _ h => h)) (fun x hx => (hzm.1 x hx).1.1) (by have := hzm.2.2; omega)
        rw [(right_check m).1 hE] at this
        exact this)
      clear hE
      go_enter Try.func17, Try.ntmps17
      go_upto_region 1 with fail
      obtain ⟨u0, hu0⟩ : ∃ u : World, w.alloc (.cells #[.int .i64 m.next, .slice Am m.nodes.length cm] 27) = u := ⟨_, rfl⟩
      have HB0 : Hid (Below w.heap.size w u0) := Lib.hid (by rw [← hu0]; exact (Below.refl w.heap.size w).alloc (Nat.le_refl _) _)
      have HT0 : Hid (Blk u0 w.heap.size 27 #[.int .i64 m.next, .slice Am m.nodes.length cm]) := Lib.hid (by rw [← hu0]; exact Blk.new _ _ _)
      have HP0 := Lib.hid (HPB.out.below HB0.out hplt)
      (try rw [hu0])
      clear hu0
      have m0 := HT0.out.cell 0; have m1 := HT0.out.cell 1
      have hmlt := HT0.out.lt
      simp at m0 m1
      go_wp2_with fail
      refine (HRT.out _ HB0.out).mono ?_
      rintro _ w1 ⟨rfl, hb⟩
      have HB1 := Lib.hid (HB0.out.trans (hb.mono HB0.out.size))
      have HT1 := Lib.hid (HT0.out.below hb hmlt)
      have HP1 := Lib.hid (HP0.out.below hb HP0.out.lt)
      clear hb HB0 HT0 HP0 m0 m1 hmlt HRT
      have m0 := HT1.out.cell 0; have m1 := HT1.out.cell 1; have p1 := HP1.out.cell 1; have p2 := HP1.out.cell 2
      have hmlt := HT1.out.lt; have hp1lt := HP1.out.lt
      simp at m0 m1 p1 p2
      go_wp2_with fail
      have CS := Lib.hid (fun (d : Nat) (os : Array Obj) => Calls.regrown_of (w := w1) (d := d) (os := os) (by
        have hbr := HB1.out.trans ((below_regrown w1 d os).mono HB1.out.size)
        have := res_is (eqB_yes HSM.out) (same_any Am X cm cx m P.here (Sort.grow (redrawn w1 d) os) F2 F (fun b hx => Nat.lt_of_lt_of_le (hF2 b hx) hbr.size) (fun b hx => Nat.lt_of_lt_of_le (hF b hx) hbr.size) (HMM.out.keep ENode.stays (Keep.below hbr hF2) (fun _ h => h)) (HRX0.out.keep ENode.stays (Keep.below hbr hF) (fun _ h => h)) (by have := hzm.2.2; omega))
        exact this))
      have k0 := cell_regrown m0; have k1 := cell_regrown m1; have k2 := cell_regrown p1; have k3 := cell_regrown p2
      clear m0 m1 p1 p2
      refine wp_region_quiet_below (by kernel_rfl) (by kernel_rfl) ?_
      repeat (first | go_big_quiet_step (exact CS.out _ _) | quiet_step (exact CS.out _ _))
      refine wpQuiet_nil ?_
      intro _ hw'
      obtain ⟨⟨dq, osq⟩, hw''⟩ := hw'
      subst hw''
      clear k0 k1 k2 k3 CS
      obtain ⟨wz, hw2⟩ : ∃ x, Sort.grow (redrawn w1 dq) osq = x := ⟨_, rfl⟩
      have HX : Hid (Below w1.heap.size w1 wz) := Lib.hid (by rw [← hw2]; exact below_regrown w1 dq osq)
      rw [hw2]
      clear hw2
      have HBZ := Lib.hid (HB1.out.trans (HX.out.mono HB1.out.size))
      have HTZ := Lib.hid (HT1.out.below HX.out hmlt)
      have HPZ := Lib.hid (HP1.out.below HX.out hp1lt)
      clear HX HB1 HT1 HP1 hmlt hp1lt
      go_wp2
      go_ret
      exact ⟨rfl, (KeepO.refl _ _).below HBZ.out, HPAST.out _ HBZ.out⟩
    · by_cases h64 : P.ahead.length + 1 > 64
      · rw [pushP_new hE hsame, if_pos h64]
        obtain ⟨ahead, here, behind⟩ := P
        simp only at *
        obtain ⟨P2, hP2⟩ : ∃ x, (⟨(ahead ++ [here]).tail, m, []⟩ : APast) = x := ⟨_, rfl⟩
        rw [hP2]
        have HPX := Lib.hid hP2
        clear hP2 HPAST
        have HRT : Hid (∀ w', Below w.heap.size w w' → Calls Try.prog 40 #[.agg #[.int .i64 m.next, .slice Am m.nodes.length cm]] w' fun e w2 => e = .returned (.bool true) ∧ Below w'.heap.size w' w2) := Lib.hid (fun w' hb => by
          have := right_any Am cm m w' F2 (fun b hx => Nat.lt_of_lt_of_le (hF2 b hx) hb.size) (HMM.out.keep ENode.stays (Keep.below hb hF2) (fun _ h => h)) (fun x hx => (hzm.1 x hx).1.1) (by have := hzm.2.2; omega)
          rw [(right_check m).1 hE] at this
          exact this)
        clear hE
        go_enter Try.func17, Try.ntmps17
        go_upto_region 1 with fail
        obtain ⟨u0, hu0⟩ : ∃ u : World, w.alloc (.cells #[.int .i64 m.next, .slice Am m.nodes.length cm] 27) = u := ⟨_, rfl⟩
        have HB0 : Hid (Below w.heap.size w u0) := Lib.hid (by rw [← hu0]; exact (Below.refl w.heap.size w).alloc (Nat.le_refl _) _)
        have HT0 : Hid (Blk u0 w.heap.size 27 #[.int .i64 m.next, .slice Am m.nodes.length cm]) := Lib.hid (by rw [← hu0]; exact Blk.new _ _ _)
        have HP0 := Lib.hid (HPB.out.below HB0.out hplt)
        (try rw [hu0])
        clear hu0
        have m0 := HT0.out.cell 0; have m1 := HT0.out.cell 1
        have hmlt := HT0.out.lt
        simp at m0 m1
        go_wp2_with fail
        refine (HRT.out _ HB0.out).mono ?_
        rintro _ w1 ⟨rfl, hb⟩
        have HB1 := Lib.hid (HB0.out.trans (hb.mono HB0.out.size))
        have HT1 := Lib.hid (HT0.out.below hb hmlt)
        have HP1 := Lib.hid (HP0.out.below hb HP0.out.lt)
        clear hb HB0 HT0 HP0 m0 m1 hmlt HRT
        have m0 := HT1.out.cell 0; have m1 := HT1.out.cell 1; have p1 := HP1.out.cell 1; have p2 := HP1.out.cell 2
        have hmlt := HT1.out.lt; have hp1lt := HP1.out.lt
        simp at m0 m1 p1 p2
        go_wp2_with fail
        have CS := Lib.hid (fun (d : Nat) (os : Array Obj) => Calls.regrown_of (w := w1) (d := d) (os := os) (by
          have hbr := HB1.out.trans ((below_regrown w1 d os).mono HB1.out.size)
          have := res_is (eqB_no hsame) (same_any Am X cm cx m here (Sort.grow (redrawn w1 d) os) F2 F (fun b hx => Nat.lt_of_lt_of_le (hF2 b hx) hbr.size) (fun b hx => Nat.lt_of_lt_of_le (hF b hx) hbr.size) (HMM.out.keep ENode.stays (Keep.below hbr hF2) (fun _ h => h)) (HRX0.out.keep ENode.stays (Keep.below hbr hF) (fun _ h => h)) (by have := hzm.2.2; omega))
          exact this))
        have k0 := cell_regrown m0; have k1 := cell_regrown m1; have k2 := cell_regrown p1; have k3 := cell_regrown p2
        clear m0 m1 p1 p2
        refine wp_region_quiet_below (by kernel_rfl) (by kernel_rfl) ?_
        repeat (first | go_big_quiet_step (exact CS.out _ _) | quiet_step (exact CS.out _ _))
        refine wpQuiet_nil ?_
        intro _ hw'
        obtain ⟨⟨dq, osq⟩, hw''⟩ := hw'
        subst hw''
        clear k0 k1 k2 k3 CS
        obtain ⟨wz, hw2⟩ : ∃ x, Sort.grow (redrawn w1 dq) osq = x := ⟨_, rfl⟩
        have HX : Hid (Below w1.heap.size w1 wz) := Lib.hid (by rw [← hw2]; exact below_regrown w1 dq osq)
        rw [hw2]
        clear hw2
        have HBZ := Lib.hid (HB1.out.trans (HX.out.mono HB1.out.size))
        have HTZ := Lib.hid (HT1.out.below HX.out hmlt)
        have HPZ := Lib.hid (HP1.out.below HX.out hp1lt)
        clear HX HB1 HT1 HP1 hmlt hp1lt
        have p0 := HPZ.out.cell 0
        simp at p0
        go_wp2_with fail
        have hFz : ∀ b, F b → b < wz.heap.size := fun b hx => Nat.lt_of_lt_of_le (hF b hx) HBZ.out.size
        have HRA : Hid (RowOf 2 EModel wz F A ahead) := Lib.hid (HRA0.out.keep EModel.stays (Keep.below HBZ.out hF) (fun _ h => h))
        have HRX : Hid (RowOf 7 ENode wz F X here.nodes) := Lib.hid (HRX0.out.keep ENode.stays (Keep.below HBZ.out hF) (fun _ h => h))
        have HWZ : Hid (w.heap.size < wz.heap.size) := Lib.hid HTZ.out.lt
        have hpz : p < wz.heap.size := HPZ.out.lt
        have HSS : Hid (∀ w', Blk w' p 49 #[.slice A ahead.length c, .int .i64 here.next, .slice X here.nodes.length cx, .slice B behind.length d] → (fun w' : World => w'.cell? ⟨p, 0, none⟩ = some (.slice A ahead.length c) ∧ w'.cell? ⟨p, 1, none⟩ = some (.int .i64 here.next) ∧ w'.cell? ⟨p, 2, none⟩ = some (.slice X here.nodes.length cx) ∧ w'.cell? ⟨p, 3, none⟩ = some (.slice B behind.length d)) w') := Lib.hid (fun w' h1 => by
          have m0 := h1.cell 0; have m1 := h1.cell 1; have m2 := h1.cell 2; have m3 := h1.cell 3
          simp at m0 m1 m2 m3
          exact ⟨m0, m1, m2, m3⟩)
        obtain ⟨u, hu⟩ : ∃ u : World, wz.drew = u := ⟨_, rfl⟩
        have HBU : Hid (Below wz.heap.size wz u) := Lib.hid (by rw [← hu]; exact (Below.refl _ _).drew)
        have HMU := Lib.hid (HPZ.out.below HBU.out HPZ.out.lt)
        have HTU := Lib.hid (HTZ.out.below HBU.out HTZ.out.lt)
        clear p0 HRA0 HRX0
        refine wp_region_Y (S := (fun w' : World => w'.cell? ⟨p, 0, none⟩ = some (.slice A ahead.length c) ∧ w'.cell? ⟨p, 1, none⟩ = some (.int .i64 here.next) ∧ w'.cell? ⟨p, 2, none⟩ = some (.slice X here.nodes.length cx) ∧ w'.cell? ⟨p, 3, none⟩ = some (.slice B behind.length d))) 15 (by kernel_rfl) (by rw [hu]; exact HSS.out _ HMU.out) (fun hHeld => ?_)
        rw [hu] at hHeld ⊢
        clear hu
        refine wpAnyY_take (i := 0) (v := ?_) rfl (by kernel_rfl) (by kernel_rfl) (by kernel_rfl) (by kernel_rfl) (fun _ _ _ h => h) (Or.inl ⟨by rfl, ?_⟩) (by assumption) ?_
        rotate_left 1
        · (intro w' hSw; obtain ⟨s0, s1, s2, s3⟩ := hSw; go_simp); try with_reducible rfl
        try simp only [Act.put, List.setIfInBounds_toArray, List.set_cons_zero, List.set_cons_succ, Nat.zero_add]
        refine wpAnyY_take (i := 2) (v := ?_) rfl (by kernel_rfl) (by kernel_rfl) (by kernel_rfl) (by kernel_rfl) (fun _ _ _ h => h) (Or.inl ⟨by rfl, ?_⟩) (by assumption) ?_
        rotate_left 1
        · (intro w' hSw; obtain ⟨s0, s1, s2, s3⟩ := hSw; go_simp); try with_reducible rfl
        try simp only [Act.put, List.setIfInBounds_toArray, List.set_cons_zero, List.set_cons_succ, Nat.zero_add]
        refine wpAnyY_take (i := 3) (v := ?_) rfl (by kernel_rfl) (by kernel_rfl) (by kernel_rfl) (by kernel_rfl) (fun _ _ _ h => h) (Or.inl ⟨by rfl, ?_⟩) (by assumption) ?_
        rotate_left 1
        · (intro w' hSw; obtain ⟨s0, s1, s2, s3⟩ := hSw; go_simp); try with_reducible rfl
        try simp only [Act.put, List.setIfInBounds_toArray, List.set_cons_zero, List.set_cons_succ, Nat.zero_add]
        refine wpAnyY_take (i := 4) (v := ?_) rfl (by kernel_rfl) (by kernel_rfl) (by kernel_rfl) (by kernel_rfl) (fun _ _ _ h => h) (Or.inl ⟨by rfl, ?_⟩) (by assumption) ?_
        rotate_left 1
        · (intro w' hSw; obtain ⟨s0, s1, s2, s3⟩ := hSw; go_simp); try with_reducible rfl
        try simp only [Act.put, List.setIfInBounds_toArray, List.set_cons_zero, List.set_cons_succ, Nat.zero_add]
        refine wpAnyY_take (i := 5) (v := ?_) rfl (by kernel_rfl) (by kernel_rfl) (by kernel_rfl) (by kernel_rfl) (fun _ _ _ h => h) (Or.inl ⟨by rfl, ?_⟩) (by assumption) ?_
        rotate_left 1
        · (intro w' hSw; obtain ⟨s0, s1, s2, s3⟩ := hSw; go_simp); try with_reducible rfl
        try simp only [Act.put, List.setIfInBounds_toArray, List.set_cons_zero, List.set_cons_succ, Nat.zero_add]
        refine wpAnyY_take (i := 7) (v := ?_) rfl (by kernel_rfl) (by kernel_rfl) (by kernel_rfl) (by kernel_rfl) (fun _ _ _ h => h) (Or.inl ⟨by rfl, ?_⟩) (by assumption) ?_
        rotate_left 1
        · (intro w' hSw; obtain ⟨s0, s1, s2, s3⟩ := hSw; go_simp); try with_reducible rfl
        try simp only [Act.put, List.setIfInBounds_toArray, List.set_cons_zero, List.set_cons_succ, Nat.zero_add]
        refine wpAnyY_take (i := 8) (v := ?_) rfl (by kernel_rfl) (by kernel_rfl) (by kernel_rfl) (by kernel_rfl) (fun _ _ _ h => h) (Or.inl ⟨by rfl, ?_⟩) (by assumption) ?_
        rotate_left 1
        · (intro w' hSw; obtain ⟨s0, s1, s2, s3⟩ := hSw; go_simp); try with_reducible rfl
        try simp only [Act.put, List.setIfInBounds_toArray, List.set_cons_zero, List.set_cons_succ, Nat.zero_add]
        refine wpAnyY_take (i := 9) (v := ?_) rfl (by kernel_rfl) (by kernel_rfl) (by kernel_rfl) (by kernel_rfl) (fun _ _ _ h => h) (Or.inl ⟨by rfl, ?_⟩) (by assumption) ?_
        rotate_left 1
        · (intro w' hSw; obtain ⟨s0, s1, s2, s3⟩ := hSw; go_simp); try with_reducible rfl
        try simp only [Act.put, List.setIfInBounds_toArray, List.set_cons_zero, List.set_cons_succ, Nat.zero_add]
        refine wpAnyY_take (i := 10) (v := ?_) rfl (by kernel_rfl) (by kernel_rfl) (by kernel_rfl) (by kernel_rfl) (fun _ _ _ h => h) (Or.inl ⟨by rfl, ?_⟩) (by assumption) ?_
        rotate_left 1
        · (intro w' hSw; obtain ⟨s0, s1, s2, s3⟩ := hSw; go_simp); try with_reducible rfl
        try simp only [Act.put, List.setIfInBounds_toArray, List.set_cons_zero, List.set_cons_succ, Nat.zero_add]
        refine wpAnyY_two (i := 1) (j := 11) rfl rfl (by kernel_rfl) (fun K hK => ?_) (fun K hK => ?_)
        · go_simp
          obtain ⟨s1, hs1⟩ : ∃ q, u.heap.size = q := ⟨_, rfl⟩
          have HE1N1 : Hid (OwnRow 2 27 EModel F (u.alloc (.cells #[] 27)) wz.heap.size (.slice (some ⟨s1, 0, none⟩) 0 0) ([] : List AModel)) := Lib.hid (by rw [← hs1]; exact OwnRow.made _ 2 u HBU.out.size)
          obtain ⟨w1, hnw⟩ : ∃ x : World, u.alloc (.cells #[] 27) = x := ⟨_, rfl⟩
          have hb3 : Below u.heap.size u w1 := by rw [← hnw]; exact (Below.refl _ _).alloc (Nat.le_refl _) _
          rw [hnw] at HE1N1
          (try rw [hnw])
          (try rw [hs1])
          clear hnw hs1
          have HBN1 := Lib.hid (HBU.out.trans (hb3.mono HBU.out.size))
          have HMN1 := Lib.hid (HMU.out.below hb3 HMU.out.lt)
          have HTN1 := Lib.hid (HTU.out.below hb3 HTU.out.lt)
          clear HBU HMU HTU
          clear hb3
          refine hK.out _ _ (fun _ => HSS.out _ HMN1.out) ?_
          have hHeldN1 := HSS.out _ HMN1.out
          clear hK K
          try simp only [Act.put, List.setIfInBounds_toArray, List.set_cons_zero, List.set_cons_succ, Nat.zero_add]
          refine wpAnyY_two (i := 6) (j := 11) rfl rfl (by kernel_rfl) (fun K hK => ?_) (fun K hK => ?_)
          · refine step_dup (P := Try.prog) (E := EModel) (F := F) (l := ahead) EModel.stays w1 (by rfl) (.tmp 15) (.tmp 19) 22 (by rfl) 27 Try.underlying22 model_info rfl (by omega) wz.heap.size s1 (by rfl) HE1N1.out A c (by rfl) (HRA.out.keep EModel.stays (Keep.below HBN1.out hFz) (fun _ h => h)) (fun _ _ h => h.one) (fun b hb => Nat.lt_of_lt_of_le (hFz b hb) HBN1.out.size) (by unfold maxLen; omega) (by omega) HBN1.out.size ?_
            intro A6 c6 w6 hown hb3
            have HA6N6 := Lib.hid hown
            have HBN6 := Lib.hid (HBN1.out.trans (hb3.mono HBN1.out.size))
            have HMN6 := Lib.hid (HMN1.out.below hb3 HMN1.out.lt)
            have HTN6 := Lib.hid (HTN1.out.below hb3 HTN1.out.lt)
            clear HBN1 HMN1 HTN1
            clear hown hb3
            refine hK.out _ _ (fun _ => HSS.out _ HMN6.out) ?_
            have hHeldN6 := HSS.out _ HMN6.out
            clear hK K
            try simp only [Act.put, List.setIfInBounds_toArray, List.set_cons_zero, List.set_cons_succ, Nat.zero_add]
            refine wpAnyY_one (i := 11) rfl (by kernel_rfl) (fun K hK => ?_)
            go_simp
            obtain ⟨s11, hs11⟩ : ∃ q, w6.heap.size = q := ⟨_, rfl⟩
            obtain ⟨w11, hnw⟩ : ∃ x : World, w6.alloc (.cells #[.int .i64 here.next, .slice X here.nodes.length cx] 27) = x := ⟨_, rfl⟩
            have hb3 : Below w6.heap.size w6 w11 := by rw [← hnw]; exact (Below.refl _ _).alloc (Nat.le_refl _) _
            have hw3 := HBN6.out.size
            have HQ11N11 : Hid (Blk w11 s11 27 #[.int .i64 here.next, .slice X here.nodes.length cx]) := Lib.hid (by rw [← hnw]; exact Blk.new' hs11.symm)
            have HS11 : Hid (wz.heap.size ≤ s11) := Lib.hid (by omega)
            (try rw [hnw])
            (try rw [hs11])
            clear hnw hs11 hw3
            have HBN11 := Lib.hid (HBN6.out.trans (hb3.mono HBN6.out.size))
            have HMN11 := Lib.hid (HMN6.out.below hb3 HMN6.out.lt)
            have HTN11 := Lib.hid (HTN6.out.below hb3 HTN6.out.lt)
            have HA6N11 := Lib.hid (HA6N6.out.below EModel.stays hb3)
            clear HBN6 HMN6 HTN6 HA6N6
            have HX11N11 : Hid (OwnRow 2 27 EModel F w11 wz.heap.size (.slice (some ⟨s11, 0, none⟩) 1 1) [here]) := Lib.hid (OwnRow.one (cs := [.int .i64 here.next, .slice X here.nodes.length cx]) HQ11N11.out HS11.out rfl ⟨_, rfl, X, cx, rfl, HCX.out.1, HCX.out.2, HRX.out.keep ENode.stays (Keep.below HBN11.out hFz) (oth_of hFz HBN11.out.size (fun b e => by obtain rfl : s11 = b := (by injection e); exact HS11.out))⟩)
            clear hb3 HX11N11
            refine hK.out _ _ (fun _ => HSS.out _ HMN11.out) ?_
            have hHeldN11 := HSS.out _ HMN11.out
            clear hK K
            try simp only [Act.put, List.setIfInBounds_toArray, List.set_cons_zero, List.set_cons_succ, Nat.zero_add]
            refine wpAnyY_one (i := 12) rfl (by kernel_rfl) (fun K hK => ?_)
            have hvb : ∀ b, (.slice A6 ahead.length c6 : Value).ownBlock = some b → wz.heap.size ≤ b := by
              obtain ⟨xs, ho⟩ := HA6N11.out.owns
              exact fun b e => (ho.lt b e).1
            have hcell := news_cells HQ11N11.out
            refine step_many (P := Try.prog) (E := EModel) (F := F) EModel.stays w11 (by rfl) (.tmp 20) (.tmp 25) 22 (by rfl) wz.heap.size 27 Try.underlying22 model_info rfl (by omega) (.slice A6 ahead.length c6) ahead (by rfl) HA6N11.out (some ⟨s11, 0, none⟩) 1 [here] [[.int .i64 here.next, .slice X here.nodes.length cx]] (by rfl) rfl (fun cs hcs => by simp at hcs; subst hcs; rfl) (fun i hi hi' => by
                have hi0 : i = 0 := by simp at hi; omega
                subst hi0
                exact ⟨_, rfl, X, cx, rfl, HCX.out.1, HCX.out.2, HRX.out.keep ENode.stays (Keep.below HBN11.out hFz) (oth_of hFz HBN11.out.size hvb)⟩) (fun e => by cases e) (fun ad e => by cases e; simpa using hcell) (fun cs hcs u hu => by
                simp at hcs; subst hcs
                simp at hu
                rcases hu with rfl | rfl <;> rfl) (by simp only [List.length_cons, List.length_nil]; unfold maxLen; omega) (by simp only [List.length_cons, List.length_nil]; omega) HBN11.out.size ?_
            intro A12 c12 w12 hown hg hat
            have hb3 : Below wz.heap.size wz w12 := HBN11.out.grown hg HBN11.out.size (fun k e => hvb k e)
            have HBN12 := Lib.hid hb3
            have HMN12 := Lib.hid (HMN11.out.grown hg (fun e => by have := hvb _ e.symm; omega))
            have HA12N12 := Lib.hid hown
            have HTN12 := Lib.hid (HTN11.out.grown hg (fun e => by have := hvb _ e.symm; have := HWZ.out; omega))
            clear hb3 hown hg hat hvb hcell HTN11 HBN11 HMN11
            rw [show ([here] : List AModel).length = 1 from rfl] at HA12N12 ⊢
            refine hK.out _ _ (fun _ => HSS.out _ HMN12.out) ?_
            have hHeldN12 := HSS.out _ HMN12.out
            have z0 := HMN12.out.frozen 0
            clear hK K
            try simp only [Act.put, List.setIfInBounds_toArray, List.set_cons_zero, List.set_cons_succ, Nat.zero_add]
            refine wpAnyY_take0 (i := 13) (v := ?_) rfl (by kernel_rfl) (by kernel_rfl) (by kernel_rfl) (by kernel_rfl) (fun _ _ _ h => h) (Or.inl ⟨by rfl, ?_⟩) ?_
            rotate_left 1
            · (intro w' _; go_simp); try with_reducible rfl
            try simp only [Act.put, List.setIfInBounds_toArray, List.set_cons_zero, List.set_cons_succ, Nat.zero_add]
            refine wpAnyY_take (i := 14) (v := ?_) rfl (by kernel_rfl) (by kernel_rfl) (by kernel_rfl) (by kernel_rfl) (fun _ _ _ h => h) (Or.inl ⟨by rfl, ?_⟩) (by assumption) ?_
            rotate_left 1
            · (intro w' hSw; obtain ⟨s0, s1, s2, s3⟩ := hSw; go_simp); try with_reducible rfl
            try simp only [Act.put, List.setIfInBounds_toArray, List.set_cons_zero, List.set_cons_succ, Nat.zero_add]
            refine wpAnyY_one0 (i := 15) rfl (by kernel_rfl) (by kernel_rfl) (fun K hK => ?_)
            go_simp
            refine hK.out _ _ ?_
            clear z0
            clear hK K
            try simp only [Act.put, List.setIfInBounds_toArray, List.set_cons_zero, List.set_cons_succ, Nat.zero_add]
            refine wpAnyY_done (by kernel_rfl) ?_ _
            obtain ⟨w6, hw6⟩ : ∃ x, w12.setCell ⟨p, 0, none⟩ (.slice A12 (ahead.length + 1) c12) = x := ⟨_, rfl⟩
            have HM6 : Hid (Blk w6 p 49 #[.slice A12 (ahead.length + 1) c12, .int .i64 here.next, .slice X here.nodes.length cx, .slice B behind.length d]) := Lib.hid (by rw [← hw6]; simpa using HMN12.out.set_ 0 (.slice A12 (ahead.length + 1) c12))
            have HK6 : Hid (KeepO (· = p) wz w6) := Lib.hid (by rw [← hw6]; exact KeepO.setp ((KeepO.refl _ _).below HBN12.out) _ _)
            have HR6 : Hid (IsRow 2 EModel w12 (fun b => F b ∨ (wz.heap.size ≤ b ∧ b < w12.heap.size)) (.slice A12 (ahead.length + 1) c12) (ahead ++ [here])) := Lib.hid (HA12N12.out.isRow EModel.stays (F' := fun b => F b ∨ (wz.heap.size ≤ b ∧ b < w12.heap.size)) (fun b h1 _ => .inl h1) (fun b h1 h2 => .inr ⟨h1, h2⟩))
            have HSZ : Hid (w6.heap.size = w12.heap.size) := Lib.hid (by rw [← hw6]; simp)
            have HFR : Hid (∀ q, q ≠ p → w6.heap[q]? = w12.heap[q]?) := Lib.hid (fun q hq => by rw [← hw6]; exact Below.heap_setCell _ _ _ _ hq)
            (try rw [hw6])
            clear hw6 HMN12 HA12N12
            have HT6 : Hid (Blk w6 w.heap.size 27 #[.int .i64 m.next, .slice Am m.nodes.length cm]) := Lib.hid ((HFR.out _ (by omega)).trans HTN12.out)
            have HRW := Lib.hid HR6.out.row
            obtain ⟨g, offg, hA12, hgF⟩ := HRW.out.1 (by simp)
            subst hA12
            have HCP : Hid (ahead.length + 1 ≤ c12 ∧ c12 ≤ maxLen) := Lib.hid (by
              obtain ⟨A', c', e, h1, h2, _⟩ := HR6.out
              injection e with _ _ e3
              subst e3
              exact ⟨by simpa using h1, h2⟩)
            clear HTN12 hgF
            have p0 := HM6.out.cell 0; have p1 := HM6.out.cell 1; have p2 := HM6.out.cell 2; have p3 := HM6.out.cell 3
            have z0 := HM6.out.frozen 0
            have m0 := HT6.out.cell 0; have m1 := HT6.out.cell 1
            have hp6 := HM6.out.lt; have ht6 := HT6.out.lt
            simp at p0 p1 p2 p3 m0 m1
            have g1 : (1 : Int) ≤ (ahead.length : Int) + 1 := by omega
            have g2 : (ahead.length : Int) + 1 ≤ c12 := by have := HCP.out; omega
            have h65 : decide ((ahead.length : Int) + 1 > 64) = true := decide_eq_true (by omega)
            have g3 : ¬ c12 = 1 := by have := HCP.out; omega
            go_wp2_with fail
            obtain ⟨w7, hw7⟩ : ∃ x, w6.setCell ⟨p, 0, none⟩ (.slice (some ⟨g, offg + 2, none⟩) ahead.length (c12 - 1)) = x := ⟨_, rfl⟩
            have HM7 : Hid (Blk w7 p 49 #[.slice (some ⟨g, offg + 2, none⟩) ahead.length (c12 - 1), .int .i64 here.next, .slice X here.nodes.length cx, .slice B behind.length d]) := Lib.hid (by rw [← hw7]; simpa using HM6.out.set_ 0 (.slice (some ⟨g, offg + 2, none⟩) ahead.length (c12 - 1)))
            have HK7 : Hid (KeepO (· = p) wz w7) := Lib.hid (by rw [← hw7]; exact KeepO.setp HK6.out _ _)
            have HF7 : Hid (∀ q, q ≠ p → w7.heap[q]? = w12.heap[q]?) := Lib.hid (fun q hq => by rw [← hw7]; exact (Below.heap_setCell _ _ _ _ hq).trans (HFR.out q hq))
            have HZ7 : Hid (w7.heap.size = w12.heap.size) := Lib.hid (by rw [← hw7]; simpa using HSZ.out)
            have HR7 : Hid (RowOf 2 EModel w12 (fun b => F b ∨ (wz.heap.size ≤ b ∧ b < w12.heap.size)) (some ⟨g, offg + 2, none⟩) (ahead ++ [here]).tail) := Lib.hid HRW.out.tl
            (try rw [hw7])
            clear hw7
            have HT7 : Hid (∀ b, F2 b → w7.heap[b]? = w.heap[b]?) := Lib.hid (fun b hb => (HK7.out.block b (by have := hF2 b hb; have := HBZ.out.size; omega) (fun e => hpF2 (e ▸ hb))).trans (HBZ.out.block b (hF2 b hb)))
            refine (twinR_any Am cm m w7 F2 (fun b hx => by have := hF2 b hx; have := HK7.out.size; have := HBZ.out.size; omega) (HMM.out.keep ENode.stays (fun q hq => World.cell?_of_block (HT7.out _ hq)) (fun _ h => h)) (fun x hx => (hzm.1 x hx).2.1) hzm.2.2).mono ?_
            rintro _ w8 ⟨v, rfl, l, hown, hmap, hb8⟩
            have HO8 := Lib.hid hown; have HMAP := Lib.hid hmap; have HB8 := Lib.hid hb8
            have HM8 := Lib.hid (HM7.out.below hb8 HM7.out.lt)
            obtain ⟨Av, cv, rfl⟩ : ∃ A c, v = .slice A m.nodes.length c := by
              obtain ⟨A', c', e⟩ := own_shape hown.row
              exact ⟨A', c', by rw [e, ← hmap, List.length_map]⟩
            clear hown hmap hb8 p0 p1 p2 p3 z0 m0 m1 hp6 ht6
            have p0 := HM8.out.cell 0; have p1 := HM8.out.cell 1; have p2 := HM8.out.cell 2; have p3 := HM8.out.cell 3
            have z1 := HM8.out.frozen 1; have z2 := HM8.out.frozen 2; have z3 := HM8.out.frozen 3
            have hp8 := HM8.out.lt
            simp at p0 p1 p2 p3
            go_wp2
            go_ret
            rw [← HPX.out]
            have hf := ((HM8.out.set_ 1 (.int .i64 m.next)).set_ 2 (.slice Av m.nodes.length cv)).set_ 3 (.slice none 0 0)
            simp at hf
            have hfar : ∀ q, q ≠ p → (((w8.setCell ⟨p, 1, none⟩ (.int .i64 m.next)).setCell ⟨p, 2, none⟩ (.slice Av m.nodes.length cv)).setCell ⟨p, 3, none⟩ (.slice none 0 0)).heap[q]? = w8.heap[q]? := fun q hq => (Below.heap_setCell _ _ _ _ hq).trans ((Below.heap_setCell _ _ _ _ hq).trans (Below.heap_setCell _ _ _ _ hq))
            have hz8 : w12.heap.size ≤ w8.heap.size := by have := HB8.out.size; have := HZ7.out; omega
            have hk8 := KeepO.after HBZ.out (HK7.out.below HB8.out)
            have hwz := HWZ.out
            have hlen : (ahead ++ [here]).tail.length = ahead.length := by simp
            refine ⟨rfl, KeepO.setp (KeepO.setp (KeepO.setp hk8 _ _) _ _) _ _, ⟨_, _, _, _, _, _, _, hf, ⟨(some ⟨g, offg + 2, none⟩), (c12 - 1), by rw [hlen], by rw [hlen]; have := HCP.out; omega, by have := HCP.out; omega, ?_⟩, ?_, IsRow.nil⟩⟩
            · refine HR7.out.keep EModel.stays (fun q hq => ?_) (fun b hb => hb.elim .inl fun h => .inr ⟨by omega, by simp; omega⟩)
              have hqp : q.block ≠ p := by
                rcases hq with hq | hq
                · exact fun e => hpF (e ▸ hq)
                · have := hq.1; omega
              have hql : q.block < w7.heap.size := by
                have := HZ7.out
                rcases hq with hq | hq
                · have := hFz _ hq; have := HK7.out.size; omega
                · have := hq.2; omega
              exact (World.cell?_of_block (hfar _ hqp)).trans ((HB8.out.cell hql).trans (World.cell?_of_block (HF7.out _ hqp)))
            · have := HO8.out.isRow (F := fun b => w7.heap.size ≤ b ∧ b < w8.heap.size) (fun b h1 h2 => ⟨h1, h2⟩)
              rw [HMAP.out] at this
              have hp7 := HM7.out.lt
              have hk7 := HK7.out.size
              exact this.keep ENode.stays (fun q hq => World.cell?_of_block (hfar _ (by have := hq.1; omega))) (fun b hb => .inr ⟨by omega, by simp; omega⟩)
          · go_simp
            obtain ⟨s11, hs11⟩ : ∃ q, w1.heap.size = q := ⟨_, rfl⟩
            obtain ⟨w11, hnw⟩ : ∃ x : World, w1.alloc (.cells #[.int .i64 here.next, .slice X here.nodes.length cx] 27) = x := ⟨_, rfl⟩
            have hb3 : Below w1.heap.size w1 w11 := by rw [← hnw]; exact (Below.refl _ _).alloc (Nat.le_refl _) _
            have hw3 := HBN1.out.size
            have HQ11N11 : Hid (Blk w11 s11 27 #[.int .i64 here.next, .slice X here.nodes.length cx]) := Lib.hid (by rw [← hnw]; exact Blk.new' hs11.symm)
            have HS11 : Hid (wz.heap.size ≤ s11) := Lib.hid (by omega)
            (try rw [hnw])
            (try rw [hs11])
            clear hnw hs11 hw3
            have HBN11 := Lib.hid (HBN1.out.trans (hb3.mono HBN1.out.size))
            have HMN11 := Lib.hid (HMN1.out.below hb3 HMN1.out.lt)
            have HTN11 := Lib.hid (HTN1.out.below hb3 HTN1.out.lt)
            have HE1N11 := Lib.hid (HE1N1.out.below EModel.stays hb3)
            clear HBN1 HMN1 HTN1 HE1N1
            have HX11N11 : Hid (OwnRow 2 27 EModel F w11 wz.heap.size (.slice (some ⟨s11, 0, none⟩) 1 1) [here]) := Lib.hid (OwnRow.one (cs := [.int .i64 here.next, .slice X here.nodes.length cx]) HQ11N11.out HS11.out rfl ⟨_, rfl, X, cx, rfl, HCX.out.1, HCX.out.2, HRX.out.keep ENode.stays (Keep.below HBN11.out hFz) (oth_of hFz HBN11.out.size (fun b e => by obtain rfl : s11 = b := (by injection e); exact HS11.out))⟩)
            clear hb3 HX11N11
            refine hK.out _ _ (fun _ => HSS.out _ HMN11.out) ?_
            have hHeldN11 := HSS.out _ HMN11.out
            clear hK K
            try simp only [Act.put, List.setIfInBounds_toArray, List.set_cons_zero, List.set_cons_succ, Nat.zero_add]
            refine wpAnyY_one (i := 6) rfl (by kernel_rfl) (fun K hK => ?_)
            refine step_dup (P := Try.prog) (E := EModel) (F := F) (l := ahead) EModel.stays w11 (by rfl) (.tmp 15) (.tmp 19) 22 (by rfl) 27 Try.underlying22 model_info rfl (by omega) wz.heap.size s1 (by rfl) HE1N11.out A c (by rfl) (HRA.out.keep EModel.stays (Keep.below HBN11.out hFz) (fun _ h => h)) (fun _ _ h => h.one) (fun b hb => Nat.lt_of_lt_of_le (hFz b hb) HBN11.out.size) (by unfold maxLen; omega) (by omega) HBN11.out.size ?_
            intro A6 c6 w6 hown hb3
            have HA6N6 := Lib.hid hown
            have HBN6 := Lib.hid (HBN11.out.trans (hb3.mono HBN11.out.size))
            have HMN6 := Lib.hid (HMN11.out.below hb3 HMN11.out.lt)
            have HTN6 := Lib.hid (HTN11.out.below hb3 HTN11.out.lt)
            have HQ11N6 := Lib.hid (HQ11N11.out.below hb3 HQ11N11.out.lt)
            clear HBN11 HMN11 HTN11 HQ11N11
            clear hown hb3
            refine hK.out _ _ (fun _ => HSS.out _ HMN6.out) ?_
            have hHeldN6 := HSS.out _ HMN6.out
            clear hK K
            try simp only [Act.put, List.setIfInBounds_toArray, List.set_cons_zero, List.set_cons_succ, Nat.zero_add]
            refine wpAnyY_one (i := 12) rfl (by kernel_rfl) (fun K hK => ?_)
            have hvb : ∀ b, (.slice A6 ahead.length c6 : Value).ownBlock = some b → wz.heap.size ≤ b := by
              obtain ⟨xs, ho⟩ := HA6N6.out.owns
              exact fun b e => (ho.lt b e).1
            have hcell := news_cells HQ11N6.out
            refine step_many (P := Try.prog) (E := EModel) (F := F) EModel.stays w6 (by rfl) (.tmp 20) (.tmp 25) 22 (by rfl) wz.heap.size 27 Try.underlying22 model_info rfl (by omega) (.slice A6 ahead.length c6) ahead (by rfl) HA6N6.out (some ⟨s11, 0, none⟩) 1 [here] [[.int .i64 here.next, .slice X here.nodes.length cx]] (by rfl) rfl (fun cs hcs => by simp at hcs; subst hcs; rfl) (fun i hi hi' => by
                have hi0 : i = 0 := by simp at hi; omega
                subst hi0
                exact ⟨_, rfl, X, cx, rfl, HCX.out.1, HCX.out.2, HRX.out.keep ENode.stays (Keep.below HBN6.out hFz) (oth_of hFz HBN6.out.size hvb)⟩) (fun e => by cases e) (fun ad e => by cases e; simpa using hcell) (fun cs hcs u hu => by
                simp at hcs; subst hcs
                simp at hu
                rcases hu with rfl | rfl <;> rfl) (by simp only [List.length_cons, List.length_nil]; unfold maxLen; omega) (by simp only [List.length_cons, List.length_nil]; omega) HBN6.out.size ?_
            intro A12 c12 w12 hown hg hat
            have hb3 : Below wz.heap.size wz w12 := HBN6.out.grown hg HBN6.out.size (fun k e => hvb k e)
            have HBN12 := Lib.hid hb3
            have HMN12 := Lib.hid (HMN6.out.grown hg (fun e => by have := hvb _ e.symm; omega))
            have HA12N12 := Lib.hid hown
            have HTN12 := Lib.hid (HTN6.out.grown hg (fun e => by have := hvb _ e.symm; have := HWZ.out; omega))
            clear hb3 hown hg hat hvb hcell HTN6 HBN6 HMN6
            rw [show ([here] : List AModel).length = 1 from rfl] at HA12N12 ⊢
            refine hK.out _ _ (fun _ => HSS.out _ HMN12.out) ?_
            have hHeldN12 := HSS.out _ HMN12.out
            have z0 := HMN12.out.frozen 0
            clear hK K
            try simp only [Act.put, List.setIfInBounds_toArray, List.set_cons_zero, List.set_cons_succ, Nat.zero_add]
            refine wpAnyY_take0 (i := 13) (v := ?_) rfl (by kernel_rfl) (by kernel_rfl) (by kernel_rfl) (by kernel_rfl) (fun _ _ _ h => h) (Or.inl ⟨by rfl, ?_⟩) ?_
            rotate_left 1
            · (intro w' _; go_simp); try with_reducible rfl
            try simp only [Act.put, List.setIfInBounds_toArray, List.set_cons_zero, List.set_cons_succ, Nat.zero_add]
            refine wpAnyY_take (i := 14) (v := ?_) rfl (by kernel_rfl) (by kernel_rfl) (by kernel_rfl) (by kernel_rfl) (fun _ _ _ h => h) (Or.inl ⟨by rfl, ?_⟩) (by assumption) ?_
            rotate_left 1
            · (intro w' hSw; obtain ⟨s0, s1, s2, s3⟩ := hSw; go_simp); try with_reducible rfl
            try simp only [Act.put, List.setIfInBounds_toArray, List.set_cons_zero, List.set_cons_succ, Nat.zero_add]
            refine wpAnyY_one0 (i := 15) rfl (by kernel_rfl) (by kernel_rfl) (fun K hK => ?_)
            go_simp
            refine hK.out _ _ ?_
            clear z0
            clear hK K
            try simp only [Act.put, List.setIfInBounds_toArray, List.set_cons_zero, List.set_cons_succ, Nat.zero_add]
            refine wpAnyY_done (by kernel_rfl) ?_ _
            obtain ⟨w6, hw6⟩ : ∃ x, w12.setCell ⟨p, 0, none⟩ (.slice A12 (ahead.length + 1) c12) = x := ⟨_, rfl⟩
            have HM6 : Hid (Blk w6 p 49 #[.slice A12 (ahead.length + 1) c12, .int .i64 here.next, .slice X here.nodes.length cx, .slice B behind.length d]) := Lib.hid (by rw [← hw6]; simpa using HMN12.out.set_ 0 (.slice A12 (ahead.length + 1) c12))
            have HK6 : Hid (KeepO (· = p) wz w6) := Lib.hid (by rw [← hw6]; exact KeepO.setp ((KeepO.refl _ _).below HBN12.out) _ _)
            have HR6 : Hid (IsRow 2 EModel w12 (fun b => F b ∨ (wz.heap.size ≤ b ∧ b < w12.heap.size)) (.slice A12 (ahead.length + 1) c12) (ahead ++ [here])) := Lib.hid (HA12N12.out.isRow EModel.stays (F' := fun b => F b ∨ (wz.heap.size ≤ b ∧ b < w12.heap.size)) (fun b h1 _ => .inl h1) (fun b h1 h2 => .inr ⟨h1, h2⟩))
            have HSZ : Hid (w6.heap.size = w12.heap.size) := Lib.hid (by rw [← hw6]; simp)
            have HFR : Hid (∀ q, q ≠ p → w6.heap[q]? = w12.heap[q]?) := Lib.hid (fun q hq => by rw [← hw6]; exact Below.heap_setCell _ _ _ _ hq)
            (try rw [hw6])
            clear hw6 HMN12 HA12N12
            have HT6 : Hid (Blk w6 w.heap.size 27 #[.int .i64 m.next, .slice Am m.nodes.length cm]) := Lib.hid ((HFR.out _ (by omega)).trans HTN12.out)
            have HRW := Lib.hid HR6.out.row
            obtain ⟨g, offg, hA12, hgF⟩ := HRW.out.1 (by simp)
            subst hA12
            have HCP : Hid (ahead.length + 1 ≤ c12 ∧ c12 ≤ maxLen) := Lib.hid (by
              obtain ⟨A', c', e, h1, h2, _⟩ := HR6.out
              injection e with _ _ e3
              subst e3
              exact ⟨by simpa using h1, h2⟩)
            clear HTN12 hgF
            have p0 := HM6.out.cell 0; have p1 := HM6.out.cell 1; have p2 := HM6.out.cell 2; have p3 := HM6.out.cell 3
            have z0 := HM6.out.frozen 0
            have m0 := HT6.out.cell 0; have m1 := HT6.out.cell 1
            have hp6 := HM6.out.lt; have ht6 := HT6.out.lt
            simp at p0 p1 p2 p3 m0 m1
            have g1 : (1 : Int) ≤ (ahead.length : Int) + 1 := by omega
            have g2 : (ahead.length : Int) + 1 ≤ c12 := by have := HCP.out; omega
            have h65 : decide ((ahead.length : Int) + 1 > 64) = true := decide_eq_true (by omega)
            have g3 : ¬ c12 = 1 := by have := HCP.out; omega
            go_wp2_with fail
            obtain ⟨w7, hw7⟩ : ∃ x, w6.setCell ⟨p, 0, none⟩ (.slice (some ⟨g, offg + 2, none⟩) ahead.length (c12 - 1)) = x := ⟨_, rfl⟩
            have HM7 : Hid (Blk w7 p 49 #[.slice (some ⟨g, offg + 2, none⟩) ahead.length (c12 - 1), .int .i64 here.next, .slice X here.nodes.length cx, .slice B behind.length d]) := Lib.hid (by rw [← hw7]; simpa using HM6.out.set_ 0 (.slice (some ⟨g, offg + 2, none⟩) ahead.length (c12 - 1)))
            have HK7 : Hid (KeepO (· = p) wz w7) := Lib.hid (by rw [← hw7]; exact KeepO.setp HK6.out _ _)
            have HF7 : Hid (∀ q, q ≠ p → w7.heap[q]? = w12.heap[q]?) := Lib.hid (fun q hq => by rw [← hw7]; exact (Below.heap_setCell _ _ _ _ hq).trans (HFR.out q hq))
            have HZ7 : Hid (w7.heap.size = w12.heap.size) := Lib.hid (by rw [← hw7]; simpa using HSZ.out)
            have HR7 : Hid (RowOf 2 EModel w12 (fun b => F b ∨ (wz.heap.size ≤ b ∧ b < w12.heap.size)) (some ⟨g, offg + 2, none⟩) (ahead ++ [here]).tail) := Lib.hid HRW.out.tl
            (try rw [hw7])
            clear hw7
            have HT7 : Hid (∀ b, F2 b → w7.heap[b]? = w.heap[b]?) := Lib.hid (fun b hb => (HK7.out.block b (by have := hF2 b hb; have := HBZ.out.size; omega) (fun e => hpF2 (e ▸ hb))).trans (HBZ.out.block b (hF2 b hb)))
            refine (twinR_any Am cm m w7 F2 (fun b hx => by have := hF2 b hx; have := HK7.out.size; have := HBZ.out.size; omega) (HMM.out.keep ENode.stays (fun q hq => World.cell?_of_block (HT7.out _ hq)) (fun _ h => h)) (fun x hx => (hzm.1 x hx).2.1) hzm.2.2).mono ?_
            rintro _ w8 ⟨v, rfl, l, hown, hmap, hb8⟩
            have HO8 := Lib.hid hown; have HMAP := Lib.hid hmap; have HB8 := Lib.hid hb8
            have HM8 := Lib.hid (HM7.out.below hb8 HM7.out.lt)
            obtain ⟨Av, cv, rfl⟩ : ∃ A c, v = .slice A m.nodes.length c := by
              obtain ⟨A', c', e⟩ := own_shape hown.row
              exact ⟨A', c', by rw [e, ← hmap, List.length_map]⟩
            clear hown hmap hb8 p0 p1 p2 p3 z0 m0 m1 hp6 ht6
            have p0 := HM8.out.cell 0; have p1 := HM8.out.cell 1; have p2 := HM8.out.cell 2; have p3 := HM8.out.cell 3
            have z1 := HM8.out.frozen 1; have z2 := HM8.out.frozen 2; have z3 := HM8.out.frozen 3
            have hp8 := HM8.out.lt
            simp at p0 p1 p2 p3
            go_wp2
            go_ret
            rw [← HPX.out]
            have hf := ((HM8.out.set_ 1 (.int .i64 m.next)).set_ 2 (.slice Av m.nodes.length cv)).set_ 3 (.slice none 0 0)
            simp at hf
            have hfar : ∀ q, q ≠ p → (((w8.setCell ⟨p, 1, none⟩ (.int .i64 m.next)).setCell ⟨p, 2, none⟩ (.slice Av m.nodes.length cv)).setCell ⟨p, 3, none⟩ (.slice none 0 0)).heap[q]? = w8.heap[q]? := fun q hq => (Below.heap_setCell _ _ _ _ hq).trans ((Below.heap_setCell _ _ _ _ hq).trans (Below.heap_setCell _ _ _ _ hq))
            have hz8 : w12.heap.size ≤ w8.heap.size := by have := HB8.out.size; have := HZ7.out; omega
            have hk8 := KeepO.after HBZ.out (HK7.out.below HB8.out)
            have hwz := HWZ.out
            have hlen : (ahead ++ [here]).tail.length = ahead.length := by simp
            refine ⟨rfl, KeepO.setp (KeepO.setp (KeepO.setp hk8 _ _) _ _) _ _, ⟨_, _, _, _, _, _, _, hf, ⟨(some ⟨g, offg + 2, none⟩), (c12 - 1), by rw [hlen], by rw [hlen]; have := HCP.out; omega, by have := HCP.out; omega, ?_⟩, ?_, IsRow.nil⟩⟩
            · refine HR7.out.keep EModel.stays (fun q hq => ?_) (fun b hb => hb.elim .inl fun h => .inr ⟨by omega, by simp; omega⟩)
              have hqp : q.block ≠ p := by
                rcases hq with hq | hq
                · exact fun e => hpF (e ▸ hq)
                · have := hq.1; omega
              have hql : q.block < w7.heap.size := by
                have := HZ7.out
                rcases hq with hq | hq
                · have := hFz _ hq; have := HK7.out.size; omega
                · have := hq.2; omega
              exact (World.cell?_of_block (hfar _ hqp)).trans ((HB8.out.cell hql).trans (World.cell?_of_block (HF7.out _ hqp)))
            · have := HO8.out.isRow (F := fun b => w7.heap.size ≤ b ∧ b < w8.heap.size) (fun b h1 h2 => ⟨h1, h2⟩)
              rw [HMAP.out] at this
              have hp7 := HM7.out.lt
              have hk7 := HK7.out.size
              exact this.keep ENode.stays (fun q hq => World.cell?_of_block (hfar _ (by have := hq.1; omega))) (fun b hb => .inr ⟨by omega, by simp; omega⟩)
        · go_simp
          obtain ⟨s11, hs11⟩ : ∃ q, u.heap.size = q := ⟨_, rfl⟩
          obtain ⟨w11, hnw⟩ : ∃ x : World, u.alloc (.cells #[.int .i64 here.next, .slice X here.nodes.length cx] 27) = x := ⟨_, rfl⟩
          have hb3 : Below u.heap.size u w11 := by rw [← hnw]; exact (Below.refl _ _).alloc (Nat.le_refl _) _
          have hw3 := HBU.out.size
          have HQ11N11 : Hid (Blk w11 s11 27 #[.int .i64 here.next, .slice X here.nodes.length cx]) := Lib.hid (by rw [← hnw]; exact Blk.new' hs11.symm)
          have HS11 : Hid (wz.heap.size ≤ s11) := Lib.hid (by omega)
          (try rw [hnw])
          (try rw [hs11])
          clear hnw hs11 hw3
          have HBN11 := Lib.hid (HBU.out.trans (hb3.mono HBU.out.size))
          have HMN11 := Lib.hid (HMU.out.below hb3 HMU.out.lt)
          have HTN11 := Lib.hid (HTU.out.below hb3 HTU.out.lt)
          clear HBU HMU HTU
          have HX11N11 : Hid (OwnRow 2 27 EModel F w11 wz.heap.size (.slice (some ⟨s11, 0, none⟩) 1 1) [here]) := Lib.hid (OwnRow.one (cs := [.int .i64 here.next, .slice X here.nodes.length cx]) HQ11N11.out HS11.out rfl ⟨_, rfl, X, cx, rfl, HCX.out.1, HCX.out.2, HRX.out.keep ENode.stays (Keep.below HBN11.out hFz) (oth_of hFz HBN11.out.size (fun b e => by obtain rfl : s11 = b := (by injection e); exact HS11.out))⟩)
          clear hb3 HX11N11
          refine hK.out _ _ (fun _ => HSS.out _ HMN11.out) ?_
          have hHeldN11 := HSS.out _ HMN11.out
          clear hK K
          try simp only [Act.put, List.setIfInBounds_toArray, List.set_cons_zero, List.set_cons_succ, Nat.zero_add]
          refine wpAnyY_one (i := 1) rfl (by kernel_rfl) (fun K hK => ?_)
          go_simp
          obtain ⟨s1, hs1⟩ : ∃ q, w11.heap.size = q := ⟨_, rfl⟩
          have HE1N1 : Hid (OwnRow 2 27 EModel F (w11.alloc (.cells #[] 27)) wz.heap.size (.slice (some ⟨s1, 0, none⟩) 0 0) ([] : List AModel)) := Lib.hid (by rw [← hs1]; exact OwnRow.made _ 2 w11 HBN11.out.size)
          obtain ⟨w1, hnw⟩ : ∃ x : World, w11.alloc (.cells #[] 27) = x := ⟨_, rfl⟩
          have hb3 : Below w11.heap.size w11 w1 := by rw [← hnw]; exact (Below.refl _ _).alloc (Nat.le_refl _) _
          rw [hnw] at HE1N1
          (try rw [hnw])
          (try rw [hs1])
          clear hnw hs1
          have HBN1 := Lib.hid (HBN11.out.trans (hb3.mono HBN11.out.size))
          have HMN1 := Lib.hid (HMN11.out.below hb3 HMN11.out.lt)
          have HTN1 := Lib.hid (HTN11.out.below hb3 HTN11.out.lt)
          have HQ11N1 := Lib.hid (HQ11N11.out.below hb3 HQ11N11.out.lt)
          clear HBN11 HMN11 HTN11 HQ11N11
          clear hb3
          refine hK.out _ _ (fun _ => HSS.out _ HMN1.out) ?_
          have hHeldN1 := HSS.out _ HMN1.out
          clear hK K
          try simp only [Act.put, List.setIfInBounds_toArray, List.set_cons_zero, List.set_cons_succ, Nat.zero_add]
          refine wpAnyY_one (i := 6) rfl (by kernel_rfl) (fun K hK => ?_)
          refine step_dup (P := Try.prog) (E := EModel) (F := F) (l := ahead) EModel.stays w1 (by rfl) (.tmp 15) (.tmp 19) 22 (by rfl) 27 Try.underlying22 model_info rfl (by omega) wz.heap.size s1 (by rfl) HE1N1.out A c (by rfl) (HRA.out.keep EModel.stays (Keep.below HBN1.out hFz) (fun _ h => h)) (fun _ _ h => h.one) (fun b hb => Nat.lt_of_lt_of_le (hFz b hb) HBN1.out.size) (by unfold maxLen; omega) (by omega) HBN1.out.size ?_
          intro A6 c6 w6 hown hb3
          have HA6N6 := Lib.hid hown
          have HBN6 := Lib.hid (HBN1.out.trans (hb3.mono HBN1.out.size))
          have HMN6 := Lib.hid (HMN1.out.below hb3 HMN1.out.lt)
          have HTN6 := Lib.hid (HTN1.out.below hb3 HTN1.out.lt)
          have HQ11N6 := Lib.hid (HQ11N1.out.below hb3 HQ11N1.out.lt)
          clear HBN1 HMN1 HTN1 HQ11N1
          clear hown hb3
          refine hK.out _ _ (fun _ => HSS.out _ HMN6.out) ?_
          have hHeldN6 := HSS.out _ HMN6.out
          clear hK K
          try simp only [Act.put, List.setIfInBounds_toArray, List.set_cons_zero, List.set_cons_succ, Nat.zero_add]
          refine wpAnyY_one (i := 12) rfl (by kernel_rfl) (fun K hK => ?_)
          have hvb : ∀ b, (.slice A6 ahead.length c6 : Value).ownBlock = some b → wz.heap.size ≤ b := by
            obtain ⟨xs, ho⟩ := HA6N6.out.owns
            exact fun b e => (ho.lt b e).1
          have hcell := news_cells HQ11N6.out
          refine step_many (P := Try.prog) (E := EModel) (F := F) EModel.stays w6 (by rfl) (.tmp 20) (.tmp 25) 22 (by rfl) wz.heap.size 27 Try.underlying22 model_info rfl (by omega) (.slice A6 ahead.length c6) ahead (by rfl) HA6N6.out (some ⟨s11, 0, none⟩) 1 [here] [[.int .i64 here.next, .slice X here.nodes.length cx]] (by rfl) rfl (fun cs hcs => by simp at hcs; subst hcs; rfl) (fun i hi hi' => by
              have hi0 : i = 0 := by simp at hi; omega
              subst hi0
              exact ⟨_, rfl, X, cx, rfl, HCX.out.1, HCX.out.2, HRX.out.keep ENode.stays (Keep.below HBN6.out hFz) (oth_of hFz HBN6.out.size hvb)⟩) (fun e => by cases e) (fun ad e => by cases e; simpa using hcell) (fun cs hcs u hu => by
              simp at hcs; subst hcs
              simp at hu
              rcases hu with rfl | rfl <;> rfl) (by simp only [List.length_cons, List.length_nil]; unfold maxLen; omega) (by simp only [List.length_cons, List.length_nil]; omega) HBN6.out.size ?_
          intro A12 c12 w12 hown hg hat
          have hb3 : Below wz.heap.size wz w12 := HBN6.out.grown hg HBN6.out.size (fun k e => hvb k e)
          have HBN12 := Lib.hid hb3
          have HMN12 := Lib.hid (HMN6.out.grown hg (fun e => by have := hvb _ e.symm; omega))
          have HA12N12 := Lib.hid hown
          have HTN12 := Lib.hid (HTN6.out.grown hg (fun e => by have := hvb _ e.symm; have := HWZ.out; omega))
          clear hb3 hown hg hat hvb hcell HTN6 HBN6 HMN6
          rw [show ([here] : List AModel).length = 1 from rfl] at HA12N12 ⊢
          refine hK.out _ _ (fun _ => HSS.out _ HMN12.out) ?_
          have hHeldN12 := HSS.out _ HMN12.out
          have z0 := HMN12.out.frozen 0
          clear hK K
          try simp only [Act.put, List.setIfInBounds_toArray, List.set_cons_zero, List.set_cons_succ, Nat.zero_add]
          refine wpAnyY_take0 (i := 13) (v := ?_) rfl (by kernel_rfl) (by kernel_rfl) (by kernel_rfl) (by kernel_rfl) (fun _ _ _ h => h) (Or.inl ⟨by rfl, ?_⟩) ?_
          rotate_left 1
          · (intro w' _; go_simp); try with_reducible rfl
          try simp only [Act.put, List.setIfInBounds_toArray, List.set_cons_zero, List.set_cons_succ, Nat.zero_add]
          refine wpAnyY_take (i := 14) (v := ?_) rfl (by kernel_rfl) (by kernel_rfl) (by kernel_rfl) (by kernel_rfl) (fun _ _ _ h => h) (Or.inl ⟨by rfl, ?_⟩) (by assumption) ?_
          rotate_left 1
          · (intro w' hSw; obtain ⟨s0, s1, s2, s3⟩ := hSw; go_simp); try with_reducible rfl
          try simp only [Act.put, List.setIfInBounds_toArray, List.set_cons_zero, List.set_cons_succ, Nat.zero_add]
          refine wpAnyY_one0 (i := 15) rfl (by kernel_rfl) (by kernel_rfl) (fun K hK => ?_)
          go_simp
          refine hK.out _ _ ?_
          clear z0
          clear hK K
          try simp only [Act.put, List.setIfInBounds_toArray, List.set_cons_zero, List.set_cons_succ, Nat.zero_add]
          refine wpAnyY_done (by kernel_rfl) ?_ _
          obtain ⟨w6, hw6⟩ : ∃ x, w12.setCell ⟨p, 0, none⟩ (.slice A12 (ahead.length + 1) c12) = x := ⟨_, rfl⟩
          have HM6 : Hid (Blk w6 p 49 #[.slice A12 (ahead.length + 1) c12, .int .i64 here.next, .slice X here.nodes.length cx, .slice B behind.length d]) := Lib.hid (by rw [← hw6]; simpa using HMN12.out.set_ 0 (.slice A12 (ahead.length + 1) c12))
          have HK6 : Hid (KeepO (· = p) wz w6) := Lib.hid (by rw [← hw6]; exact KeepO.setp ((KeepO.refl _ _).below HBN12.out) _ _)
          have HR6 : Hid (IsRow 2 EModel w12 (fun b => F b ∨ (wz.heap.size ≤ b ∧ b < w12.heap.size)) (.slice A12 (ahead.length + 1) c12) (ahead ++ [here])) := Lib.hid (HA12N12.out.isRow EModel.stays (F' := fun b => F b ∨ (wz.heap.size ≤ b ∧ b < w12.heap.size)) (fun b h1 _ => .inl h1) (fun b h1 h2 => .inr ⟨h1, h2⟩))
          have HSZ : Hid (w6.heap.size = w12.heap.size) := Lib.hid (by rw [← hw6]; simp)
          have HFR : Hid (∀ q, q ≠ p → w6.heap[q]? = w12.heap[q]?) := Lib.hid (fun q hq => by rw [← hw6]; exact Below.heap_setCell _ _ _ _ hq)
          (try rw [hw6])
          clear hw6 HMN12 HA12N12
          have HT6 : Hid (Blk w6 w.heap.size 27 #[.int .i64 m.next, .slice Am m.nodes.length cm]) := Lib.hid ((HFR.out _ (by omega)).trans HTN12.out)
          have HRW := Lib.hid HR6.out.row
          obtain ⟨g, offg, hA12, hgF⟩ := HRW.out.1 (by simp)
          subst hA12
          have HCP : Hid (ahead.length + 1 ≤ c12 ∧ c12 ≤ maxLen) := Lib.hid (by
            obtain ⟨A', c', e, h1, h2, _⟩ := HR6.out
            injection e with _ _ e3
            subst e3
            exact ⟨by simpa using h1, h2⟩)
          clear HTN12 hgF
          have p0 := HM6.out.cell 0; have p1 := HM6.out.cell 1; have p2 := HM6.out.cell 2; have p3 := HM6.out.cell 3
          have z0 := HM6.out.frozen 0
          have m0 := HT6.out.cell 0; have m1 := HT6.out.cell 1
          have hp6 := HM6.out.lt; have ht6 := HT6.out.lt
          simp at p0 p1 p2 p3 m0 m1
          have g1 : (1 : Int) ≤ (ahead.length : Int) + 1 := by omega
          have g2 : (ahead.length : Int) + 1 ≤ c12 := by have := HCP.out; omega
          have h65 : decide ((ahead.length : Int) + 1 > 64) = true := decide_eq_true (by omega)
          have g3 : ¬ c12 = 1 := by have := HCP.out; omega
          go_wp2_with fail
          obtain ⟨w7, hw7⟩ : ∃ x, w6.setCell ⟨p, 0, none⟩ (.slice (some ⟨g, offg + 2, none⟩) ahead.length (c12 - 1)) = x := ⟨_, rfl⟩
          have HM7 : Hid (Blk w7 p 49 #[.slice (some ⟨g, offg + 2, none⟩) ahead.length (c12 - 1), .int .i64 here.next, .slice X here.nodes.length cx, .slice B behind.length d]) := Lib.hid (by rw [← hw7]; simpa using HM6.out.set_ 0 (.slice (some ⟨g, offg + 2, none⟩) ahead.length (c12 - 1)))
          have HK7 : Hid (KeepO (· = p) wz w7) := Lib.hid (by rw [← hw7]; exact KeepO.setp HK6.out _ _)
          have HF7 : Hid (∀ q, q ≠ p → w7.heap[q]? = w12.heap[q]?) := Lib.hid (fun q hq => by rw [← hw7]; exact (Below.heap_setCell _ _ _ _ hq).trans (HFR.out q hq))
          have HZ7 : Hid (w7.heap.size = w12.heap.size) := Lib.hid (by rw [← hw7]; simpa using HSZ.out)
          have HR7 : Hid (RowOf 2 EModel w12 (fun b => F b ∨ (wz.heap.size ≤ b ∧ b < w12.heap.size)) (some ⟨g, offg + 2, none⟩) (ahead ++ [here]).tail) := Lib.hid HRW.out.tl
          (try rw [hw7])
          clear hw7
          have HT7 : Hid (∀ b, F2 b → w7.heap[b]? = w.heap[b]?) := Lib.hid (fun b hb => (HK7.out.block b (by have := hF2 b hb; have := HBZ.out.size; omega) (fun e => hpF2 (e ▸ hb))).trans (HBZ.out.block b (hF2 b hb)))
          refine (twinR_any Am cm m w7 F2 (fun b hx => by have := hF2 b hx; have := HK7.out.size; have := HBZ.out.size; omega) (HMM.out.keep ENode.stays (fun q hq => World.cell?_of_block (HT7.out _ hq)) (fun _ h => h)) (fun x hx => (hzm.1 x hx).2.1) hzm.2.2).mono ?_
          rintro _ w8 ⟨v, rfl, l, hown, hmap, hb8⟩
          have HO8 := Lib.hid hown; have HMAP := Lib.hid hmap; have HB8 := Lib.hid hb8
          have HM8 := Lib.hid (HM7.out.below hb8 HM7.out.lt)
          obtain ⟨Av, cv, rfl⟩ : ∃ A c, v = .slice A m.nodes.length c := by
            obtain ⟨A', c', e⟩ := own_shape hown.row
            exact ⟨A', c', by rw [e, ← hmap, List.length_map]⟩
          clear hown hmap hb8 p0 p1 p2 p3 z0 m0 m1 hp6 ht6
          have p0 := HM8.out.cell 0; have p1 := HM8.out.cell 1; have p2 := HM8.out.cell 2; have p3 := HM8.out.cell 3
          have z1 := HM8.out.frozen 1; have z2 := HM8.out.frozen 2; have z3 := HM8.out.frozen 3
          have hp8 := HM8.out.lt
          simp at p0 p1 p2 p3
          go_wp2
          go_ret
          rw [← HPX.out]
          have hf := ((HM8.out.set_ 1 (.int .i64 m.next)).set_ 2 (.slice Av m.nodes.length cv)).set_ 3 (.slice none 0 0)
          simp at hf
          have hfar : ∀ q, q ≠ p → (((w8.setCell ⟨p, 1, none⟩ (.int .i64 m.next)).setCell ⟨p, 2, none⟩ (.slice Av m.nodes.length cv)).setCell ⟨p, 3, none⟩ (.slice none 0 0)).heap[q]? = w8.heap[q]? := fun q hq => (Below.heap_setCell _ _ _ _ hq).trans ((Below.heap_setCell _ _ _ _ hq).trans (Below.heap_setCell _ _ _ _ hq))
          have hz8 : w12.heap.size ≤ w8.heap.size := by have := HB8.out.size; have := HZ7.out; omega
          have hk8 := KeepO.after HBZ.out (HK7.out.below HB8.out)
          have hwz := HWZ.out
          have hlen : (ahead ++ [here]).tail.length = ahead.length := by simp
          refine ⟨rfl, KeepO.setp (KeepO.setp (KeepO.setp hk8 _ _) _ _) _ _, ⟨_, _, _, _, _, _, _, hf, ⟨(some ⟨g, offg + 2, none⟩), (c12 - 1), by rw [hlen], by rw [hlen]; have := HCP.out; omega, by have := HCP.out; omega, ?_⟩, ?_, IsRow.nil⟩⟩
          · refine HR7.out.keep EModel.stays (fun q hq => ?_) (fun b hb => hb.elim .inl fun h => .inr ⟨by omega, by simp; omega⟩)
            have hqp : q.block ≠ p := by
              rcases hq with hq | hq
              · exact fun e => hpF (e ▸ hq)
              · have := hq.1; omega
            have hql : q.block < w7.heap.size := by
              have := HZ7.out
              rcases hq with hq | hq
              · have := hFz _ hq; have := HK7.out.size; omega
              · have := hq.2; omega
            exact (World.cell?_of_block (hfar _ hqp)).trans ((HB8.out.cell hql).trans (World.cell?_of_block (HF7.out _ hqp)))
          · have := HO8.out.isRow (F := fun b => w7.heap.size ≤ b ∧ b < w8.heap.size) (fun b h1 h2 => ⟨h1, h2⟩)
            rw [HMAP.out] at this
            have hp7 := HM7.out.lt
            have hk7 := HK7.out.size
            exact this.keep ENode.stays (fun q hq => World.cell?_of_block (hfar _ (by have := hq.1; omega))) (fun b hb => .inr ⟨by omega, by simp; omega⟩)
      · rw [pushP_new hE hsame, if_neg h64]
        obtain ⟨ahead, here, behind⟩ := P
        simp only at *
        obtain ⟨P2, hP2⟩ : ∃ x, (⟨ahead ++ [here], m, []⟩ : APast) = x := ⟨_, rfl⟩
        rw [hP2]
        have HPX := Lib.hid hP2
        clear hP2 HPAST
        have HRT : Hid (∀ w', Below w.heap.size w w' → Calls Try.prog 40 #[.agg #[.int .i64 m.next, .slice Am m.nodes.length cm]] w' fun e w2 => e = .returned (.bool true) ∧ Below w'.heap.size w' w2) := Lib.hid (fun w' hb => by
          have := right_any Am cm m w' F2 (fun b hx => Nat.lt_of_lt_of_le (hF2 b hx) hb.size) (HMM.out.keep ENode.stays (Keep.below hb hF2) (fun _ h => h)) (fun x hx => (hzm.1 x hx).1.1) (by have := hzm.2.2; omega)
          rw [(right_check m).1 hE] at this
          exact this)
        clear hE
        go_enter Try.func17, Try.ntmps17
        go_upto_region 1 with fail
        obtain ⟨u0, hu0⟩ : ∃ u : World, w.alloc (.cells #[.int .i64 m.next, .slice Am m.nodes.length cm] 27) = u := ⟨_, rfl⟩
        have HB0 : Hid (Below w.heap.size w u0) := Lib.hid (by rw [← hu0]; exact (Below.refl w.heap.size w).alloc (Nat.le_refl _) _)
        have HT0 : Hid (Blk u0 w.heap.size 27 #[.int .i64 m.next, .slice Am m.nodes.length cm]) := Lib.hid (by rw [← hu0]; exact Blk.new _ _ _)
        have HP0 := Lib.hid (HPB.out.below HB0.out hplt)
        (try rw [hu0])
        clear hu0
        have m0 := HT0.out.cell 0; have m1 := HT0.out.cell 1
        have hmlt := HT0.out.lt
        simp at m0 m1
        go_wp2_with fail
        refine (HRT.out _ HB0.out).mono ?_
        rintro _ w1 ⟨rfl, hb⟩
        have HB1 := Lib.hid (HB0.out.trans (hb.mono HB0.out.size))
        have HT1 := Lib.hid (HT0.out.below hb hmlt)
        have HP1 := Lib.hid (HP0.out.below hb HP0.out.lt)
        clear hb HB0 HT0 HP0 m0 m1 hmlt HRT
        have m0 := HT1.out.cell 0; have m1 := HT1.out.cell 1; have p1 := HP1.out.cell 1; have p2 := HP1.out.cell 2
        have hmlt := HT1.out.lt; have hp1lt := HP1.out.lt
        simp at m0 m1 p1 p2
        go_wp2_with fail
        have CS := Lib.hid (fun (d : Nat) (os : Array Obj) => Calls.regrown_of (w := w1) (d := d) (os := os) (by
          have hbr := HB1.out.trans ((below_regrown w1 d os).mono HB1.out.size)
          have := res_is (eqB_no hsame) (same_any Am X cm cx m here (Sort.grow (redrawn w1 d) os) F2 F (fun b hx => Nat.lt_of_lt_of_le (hF2 b hx) hbr.size) (fun b hx => Nat.lt_of_lt_of_le (hF b hx) hbr.size) (HMM.out.keep ENode.stays (Keep.below hbr hF2) (fun _ h => h)) (HRX0.out.keep ENode.stays (Keep.below hbr hF) (fun _ h => h)) (by have := hzm.2.2; omega))
          exact this))
        have k0 := cell_regrown m0; have k1 := cell_regrown m1; have k2 := cell_regrown p1; have k3 := cell_regrown p2
        clear m0 m1 p1 p2
        refine wp_region_quiet_below (by kernel_rfl) (by kernel_rfl) ?_
        repeat (first | go_big_quiet_step (exact CS.out _ _) | quiet_step (exact CS.out _ _))
        refine wpQuiet_nil ?_
        intro _ hw'
        obtain ⟨⟨dq, osq⟩, hw''⟩ := hw'
        subst hw''
        clear k0 k1 k2 k3 CS
        obtain ⟨wz, hw2⟩ : ∃ x, Sort.grow (redrawn w1 dq) osq = x := ⟨_, rfl⟩
        have HX : Hid (Below w1.heap.size w1 wz) := Lib.hid (by rw [← hw2]; exact below_regrown w1 dq osq)
        rw [hw2]
        clear hw2
        have HBZ := Lib.hid (HB1.out.trans (HX.out.mono HB1.out.size))
        have HTZ := Lib.hid (HT1.out.below HX.out hmlt)
        have HPZ := Lib.hid (HP1.out.below HX.out hp1lt)
        clear HX HB1 HT1 HP1 hmlt hp1lt
        have p0 := HPZ.out.cell 0
        simp at p0
        go_wp2_with fail
        have hFz : ∀ b, F b → b < wz.heap.size := fun b hx => Nat.lt_of_lt_of_le (hF b hx) HBZ.out.size
        have HRA : Hid (RowOf 2 EModel wz F A ahead) := Lib.hid (HRA0.out.keep EModel.stays (Keep.below HBZ.out hF) (fun _ h => h))
        have HRX : Hid (RowOf 7 ENode wz F X here.nodes) := Lib.hid (HRX0.out.keep ENode.stays (Keep.below HBZ.out hF) (fun _ h => h))
        have HWZ : Hid (w.heap.size < wz.heap.size) := Lib.hid HTZ.out.lt
        have hpz : p < wz.heap.size := HPZ.out.lt
        have HSS : Hid (∀ w', Blk w' p 49 #[.slice A ahead.length c, .int .i64 here.next, .slice X here.nodes.length cx, .slice B behind.length d] → (fun w' : World => w'.cell? ⟨p, 0, none⟩ = some (.slice A ahead.length c) ∧ w'.cell? ⟨p, 1, none⟩ = some (.int .i64 here.next) ∧ w'.cell? ⟨p, 2, none⟩ = some (.slice X here.nodes.length cx) ∧ w'.cell? ⟨p, 3, none⟩ = some (.slice B behind.length d)) w') := Lib.hid (fun w' h1 => by
          have m0 := h1.cell 0; have m1 := h1.cell 1; have m2 := h1.cell 2; have m3 := h1.cell 3
          simp at m0 m1 m2 m3
          exact ⟨m0, m1, m2, m3⟩)
        obtain ⟨u, hu⟩ : ∃ u : World, wz.drew = u := ⟨_, rfl⟩
        have HBU : Hid (Below wz.heap.size wz u) := Lib.hid (by rw [← hu]; exact (Below.refl _ _).drew)
        have HMU := Lib.hid (HPZ.out.below HBU.out HPZ.out.lt)
        have HTU := Lib.hid (HTZ.out.below HBU.out HTZ.out.lt)
        clear p0 HRA0 HRX0
        refine wp_region_Y (S := (fun w' : World => w'.cell? ⟨p, 0, none⟩ = some (.slice A ahead.length c) ∧ w'.cell? ⟨p, 1, none⟩ = some (.int .i64 here.next) ∧ w'.cell? ⟨p, 2, none⟩ = some (.slice X here.nodes.length cx) ∧ w'.cell? ⟨p, 3, none⟩ = some (.slice B behind.length d))) 15 (by kernel_rfl) (by rw [hu]; exact HSS.out _ HMU.out) (fun hHeld => ?_)
        rw [hu] at hHeld ⊢
        clear hu
        refine wpAnyY_take (i := 0) (v := ?_) rfl (by kernel_rfl) (by kernel_rfl) (by kernel_rfl) (by kernel_rfl) (fun _ _ _ h => h) (Or.inl ⟨by rfl, ?_⟩) (by assumption) ?_
        rotate_left 1
        · (intro w' hSw; obtain ⟨s0, s1, s2, s3⟩ := hSw; go_simp); try with_reducible rfl
        try simp only [Act.put, List.setIfInBounds_toArray, List.set_cons_zero, List.set_cons_succ, Nat.zero_add]
        refine wpAnyY_take (i := 2) (v := ?_) rfl (by kernel_rfl) (by kernel_rfl) (by kernel_rfl) (by kernel_rfl) (fun _ _ _ h => h) (Or.inl ⟨by rfl, ?_⟩) (by assumption) ?_
        rotate_left 1
        · (intro w' hSw; obtain ⟨s0, s1, s2, s3⟩ := hSw; go_simp); try with_reducible rfl
        try simp only [Act.put, List.setIfInBounds_toArray, List.set_cons_zero, List.set_cons_succ, Nat.zero_add]
        refine wpAnyY_take (i := 3) (v := ?_) rfl (by kernel_rfl) (by kernel_rfl) (by kernel_rfl) (by kernel_rfl) (fun _ _ _ h => h) (Or.inl ⟨by rfl, ?_⟩) (by assumption) ?_
        rotate_left 1
        · (intro w' hSw; obtain ⟨s0, s1, s2, s3⟩ := hSw; go_simp); try with_reducible rfl
        try simp only [Act.put, List.setIfInBounds_toArray, List.set_cons_zero, List.set_cons_succ, Nat.zero_add]
        refine wpAnyY_take (i := 4) (v := ?_) rfl (by kernel_rfl) (by kernel_rfl) (by kernel_rfl) (by kernel_rfl) (fun _ _ _ h => h) (Or.inl ⟨by rfl, ?_⟩) (by assumption) ?_
        rotate_left 1
        · (intro w' hSw; obtain ⟨s0, s1, s2, s3⟩ := hSw; go_simp); try with_reducible rfl
        try simp only [Act.put, List.setIfInBounds_toArray, List.set_cons_zero, List.set_cons_succ, Nat.zero_add]
        refine wpAnyY_take (i := 5) (v := ?_) rfl (by kernel_rfl) (by kernel_rfl) (by kernel_rfl) (by kernel_rfl) (fun _ _ _ h => h) (Or.inl ⟨by rfl, ?_⟩) (by assumption) ?_
        rotate_left 1
        · (intro w' hSw; obtain ⟨s0, s1, s2, s3⟩ := hSw; go_simp); try with_reducible rfl
        try simp only [Act.put, List.setIfInBounds_toArray, List.set_cons_zero, List.set_cons_succ, Nat.zero_add]
        refine wpAnyY_take (i := 7) (v := ?_) rfl (by kernel_rfl) (by kernel_rfl) (by kernel_rfl) (by kernel_rfl) (fun _ _ _ h => h) (Or.inl ⟨by rfl, ?_⟩) (by assumption) ?_
        rotate_left 1
        · (intro w' hSw; obtain ⟨s0, s1, s2, s3⟩ := hSw; go_simp); try with_reducible rfl
        try simp only [Act.put, List.setIfInBounds_toArray, List.set_cons_zero, List.set_cons_succ, Nat.zero_add]
        refine wpAnyY_take (i := 8) (v := ?_) rfl (by kernel_rfl) (by kernel_rfl) (by kernel_rfl) (by kernel_rfl) (fun _ _ _ h => h) (Or.inl ⟨by rfl, ?_⟩) (by assumption) ?_
        rotate_left 1
        · (intro w' hSw; obtain ⟨s0, s1, s2, s3⟩ := hSw; go_simp); try with_reducible rfl
        try simp only [Act.put, List.setIfInBounds_toArray, List.set_cons_zero, List.set_cons_succ, Nat.zero_add]
        refine wpAnyY_take (i := 9) (v := ?_) rfl (by kernel_rfl) (by kernel_rfl) (by kernel_rfl) (by kernel_rfl) (fun _ _ _ h => h) (Or.inl ⟨by rfl, ?_⟩) (by assumption) ?_
        rotate_left 1
        · (intro w' hSw; obtain ⟨s0, s1, s2, s3⟩ := hSw; go_simp); try with_reducible rfl
        try simp only [Act.put, List.setIfInBounds_toArray, List.set_cons_zero, List.set_cons_succ, Nat.zero_add]
        refine wpAnyY_take (i := 10) (v := ?_) rfl (by kernel_rfl) (by kernel_rfl) (by kernel_rfl) (by kernel_rfl) (fun _ _ _ h => h) (Or.inl ⟨by rfl, ?_⟩) (by assumption) ?_
        rotate_left 1
        · (intro w' hSw; obtain ⟨s0, s1, s2, s3⟩ := hSw; go_simp); try with_reducible rfl
        try simp only [Act.put, List.setIfInBounds_toArray, List.set_cons_zero, List.set_cons_succ, Nat.zero_add]
        refine wpAnyY_two (i := 1) (j := 11) rfl rfl (by kernel_rfl) (fun K hK => ?_) (fun K hK => ?_)
        · go_simp
          obtain ⟨s1, hs1⟩ : ∃ q, u.heap.size = q := ⟨_, rfl⟩
          have HE1N1 : Hid (OwnRow 2 27 EModel F (u.alloc (.cells #[] 27)) wz.heap.size (.slice (some ⟨s1, 0, none⟩) 0 0) ([] : List AModel)) := Lib.hid (by rw [← hs1]; exact OwnRow.made _ 2 u HBU.out.size)
          obtain ⟨w1, hnw⟩ : ∃ x : World, u.alloc (.cells #[] 27) = x := ⟨_, rfl⟩
          have hb3 : Below u.heap.size u w1 := by rw [← hnw]; exact (Below.refl _ _).alloc (Nat.le_refl _) _
          rw [hnw] at HE1N1
          (try rw [hnw])
          (try rw [hs1])
          clear hnw hs1
          have HBN1 := Lib.hid (HBU.out.trans (hb3.mono HBU.out.size))
          have HMN1 := Lib.hid (HMU.out.below hb3 HMU.out.lt)
          have HTN1 := Lib.hid (HTU.out.below hb3 HTU.out.lt)
          clear HBU HMU HTU
          clear hb3
          refine hK.out _ _ (fun _ => HSS.out _ HMN1.out) ?_
          have hHeldN1 := HSS.out _ HMN1.out
          clear hK K
          try simp only [Act.put, List.setIfInBounds_toArray, List.set_cons_zero, List.set_cons_succ, Nat.zero_add]
          refine wpAnyY_two (i := 6) (j := 11) rfl rfl (by kernel_rfl) (fun K hK => ?_) (fun K hK => ?_)
          · refine step_dup (P := Try.prog) (E := EModel) (F := F) (l := ahead) EModel.stays w1 (by rfl) (.tmp 15) (.tmp 19) 22 (by rfl) 27 Try.underlying22 model_info rfl (by omega) wz.heap.size s1 (by rfl) HE1N1.out A c (by rfl) (HRA.out.keep EModel.stays (Keep.below HBN1.out hFz) (fun _ h => h)) (fun _ _ h => h.one) (fun b hb => Nat.lt_of_lt_of_le (hFz b hb) HBN1.out.size) (by unfold maxLen; omega) (by omega) HBN1.out.size ?_
            intro A6 c6 w6 hown hb3
            have HA6N6 := Lib.hid hown
            have HBN6 := Lib.hid (HBN1.out.trans (hb3.mono HBN1.out.size))
            have HMN6 := Lib.hid (HMN1.out.below hb3 HMN1.out.lt)
            have HTN6 := Lib.hid (HTN1.out.below hb3 HTN1.out.lt)
            clear HBN1 HMN1 HTN1
            clear hown hb3
            refine hK.out _ _ (fun _ => HSS.out _ HMN6.out) ?_
            have hHeldN6 := HSS.out _ HMN6.out
            clear hK K
            try simp only [Act.put, List.setIfInBounds_toArray, List.set_cons_zero, List.set_cons_succ, Nat.zero_add]
            refine wpAnyY_one (i := 11) rfl (by kernel_rfl) (fun K hK => ?_)
            go_simp
            obtain ⟨s11, hs11⟩ : ∃ q, w6.heap.size = q := ⟨_, rfl⟩
            obtain ⟨w11, hnw⟩ : ∃ x : World, w6.alloc (.cells #[.int .i64 here.next, .slice X here.nodes.length cx] 27) = x := ⟨_, rfl⟩
            have hb3 : Below w6.heap.size w6 w11 := by rw [← hnw]; exact (Below.refl _ _).alloc (Nat.le_refl _) _
            have hw3 := HBN6.out.size
            have HQ11N11 : Hid (Blk w11 s11 27 #[.int .i64 here.next, .slice X here.nodes.length cx]) := Lib.hid (by rw [← hnw]; exact Blk.new' hs11.symm)
            have HS11 : Hid (wz.heap.size ≤ s11) := Lib.hid (by omega)
            (try rw [hnw])
            (try rw [hs11])
            clear hnw hs11 hw3
            have HBN11 := Lib.hid (HBN6.out.trans (hb3.mono HBN6.out.size))
            have HMN11 := Lib.hid (HMN6.out.below hb3 HMN6.out.lt)
            have HTN11 := Lib.hid (HTN6.out.below hb3 HTN6.out.lt)
            have HA6N11 := Lib.hid (HA6N6.out.below EModel.stays hb3)
            clear HBN6 HMN6 HTN6 HA6N6
            have HX11N11 : Hid (OwnRow 2 27 EModel F w11 wz.heap.size (.slice (some ⟨s11, 0, none⟩) 1 1) [here]) := Lib.hid (OwnRow.one (cs := [.int .i64 here.next, .slice X here.nodes.length cx]) HQ11N11.out HS11.out rfl ⟨_, rfl, X, cx, rfl, HCX.out.1, HCX.out.2, HRX.out.keep ENode.stays (Keep.below HBN11.out hFz) (oth_of hFz HBN11.out.size (fun b e => by obtain rfl : s11 = b := (by injection e); exact HS11.out))⟩)
            clear hb3 HX11N11
            refine hK.out _ _ (fun _ => HSS.out _ HMN11.out) ?_
            have hHeldN11 := HSS.out _ HMN11.out
            clear hK K
            try simp only [Act.put, List.setIfInBounds_toArray, List.set_cons_zero, List.set_cons_succ, Nat.zero_add]
            refine wpAnyY_one (i := 12) rfl (by kernel_rfl) (fun K hK => ?_)
            have hvb : ∀ b, (.slice A6 ahead.length c6 : Value).ownBlock = some b → wz.heap.size ≤ b := by
              obtain ⟨xs, ho⟩ := HA6N11.out.owns
              exact fun b e => (ho.lt b e).1
            have hcell := news_cells HQ11N11.out
            refine step_many (P := Try.prog) (E := EModel) (F := F) EModel.stays w11 (by rfl) (.tmp 20) (.tmp 25) 22 (by rfl) wz.heap.size 27 Try.underlying22 model_info rfl (by omega) (.slice A6 ahead.length c6) ahead (by rfl) HA6N11.out (some ⟨s11, 0, none⟩) 1 [here] [[.int .i64 here.next, .slice X here.nodes.length cx]] (by rfl) rfl (fun cs hcs => by simp at hcs; subst hcs; rfl) (fun i hi hi' => by
                have hi0 : i = 0 := by simp at hi; omega
                subst hi0
                exact ⟨_, rfl, X, cx, rfl, HCX.out.1, HCX.out.2, HRX.out.keep ENode.stays (Keep.below HBN11.out hFz) (oth_of hFz HBN11.out.size hvb)⟩) (fun e => by cases e) (fun ad e => by cases e; simpa using hcell) (fun cs hcs u hu => by
                simp at hcs; subst hcs
                simp at hu
                rcases hu with rfl | rfl <;> rfl) (by simp only [List.length_cons, List.length_nil]; unfold maxLen; omega) (by simp only [List.length_cons, List.length_nil]; omega) HBN11.out.size ?_
            intro A12 c12 w12 hown hg hat
            have hb3 : Below wz.heap.size wz w12 := HBN11.out.grown hg HBN11.out.size (fun k e => hvb k e)
            have HBN12 := Lib.hid hb3
            have HMN12 := Lib.hid (HMN11.out.grown hg (fun e => by have := hvb _ e.symm; omega))
            have HA12N12 := Lib.hid hown
            have HTN12 := Lib.hid (HTN11.out.grown hg (fun e => by have := hvb _ e.symm; have := HWZ.out; omega))
            clear hb3 hown hg hat hvb hcell HTN11 HBN11 HMN11
            rw [show ([here] : List AModel).length = 1 from rfl] at HA12N12 ⊢
            refine hK.out _ _ (fun _ => HSS.out _ HMN12.out) ?_
            have hHeldN12 := HSS.out _ HMN12.out
            have z0 := HMN12.out.frozen 0
            clear hK K
            try simp only [Act.put, List.setIfInBounds_toArray, List.set_cons_zero, List.set_cons_succ, Nat.zero_add]
            refine wpAnyY_take0 (i := 13) (v := ?_) rfl (by kernel_rfl) (by kernel_rfl) (by kernel_rfl) (by kernel_rfl) (fun _ _ _ h => h) (Or.inl ⟨by rfl, ?_⟩) ?_
            rotate_left 1
            · (intro w' _; go_simp); try with_reducible rfl
            try simp only [Act.put, List.setIfInBounds_toArray, List.set_cons_zero, List.set_cons_succ, Nat.zero_add]
            refine wpAnyY_take (i := 14) (v := ?_) rfl (by kernel_rfl) (by kernel_rfl) (by kernel_rfl) (by kernel_rfl) (fun _ _ _ h => h) (Or.inl ⟨by rfl, ?_⟩) (by assumption) ?_
            rotate_left 1
            · (intro w' hSw; obtain ⟨s0, s1, s2, s3⟩ := hSw; go_simp); try with_reducible rfl
            try simp only [Act.put, List.setIfInBounds_toArray, List.set_cons_zero, List.set_cons_succ, Nat.zero_add]
            refine wpAnyY_one0 (i := 15) rfl (by kernel_rfl) (by kernel_rfl) (fun K hK => ?_)
            go_simp
            refine hK.out _ _ ?_
            clear z0
            clear hK K
            try simp only [Act.put, List.setIfInBounds_toArray, List.set_cons_zero, List.set_cons_succ, Nat.zero_add]
            refine wpAnyY_done (by kernel_rfl) ?_ _
            obtain ⟨w6, hw6⟩ : ∃ x, w12.setCell ⟨p, 0, none⟩ (.slice A12 (ahead.length + 1) c12) = x := ⟨_, rfl⟩
            have HM6 : Hid (Blk w6 p 49 #[.slice A12 (ahead.length + 1) c12, .int .i64 here.next, .slice X here.nodes.length cx, .slice B behind.length d]) := Lib.hid (by rw [← hw6]; simpa using HMN12.out.set_ 0 (.slice A12 (ahead.length + 1) c12))
            have HK6 : Hid (KeepO (· = p) wz w6) := Lib.hid (by rw [← hw6]; exact KeepO.setp ((KeepO.refl _ _).below HBN12.out) _ _)
            have HR6 : Hid (IsRow 2 EModel w12 (fun b => F b ∨ (wz.heap.size ≤ b ∧ b < w12.heap.size)) (.slice A12 (ahead.length + 1) c12) (ahead ++ [here])) := Lib.hid (HA12N12.out.isRow EModel.stays (F' := fun b => F b ∨ (wz.heap.size ≤ b ∧ b < w12.heap.size)) (fun b h1 _ => .inl h1) (fun b h1 h2 => .inr ⟨h1, h2⟩))
            have HSZ : Hid (w6.heap.size = w12.heap.size) := Lib.hid (by rw [← hw6]; simp)
            have HFR : Hid (∀ q, q ≠ p → w6.heap[q]? = w12.heap[q]?) := Lib.hid (fun q hq => by rw [← hw6]; exact Below.heap_setCell _ _ _ _ hq)
            (try rw [hw6])
            clear hw6 HMN12 HA12N12
            have HT6 : Hid (Blk w6 w.heap.size 27 #[.int .i64 m.next, .slice Am m.nodes.length cm]) := Lib.hid ((HFR.out _ (by omega)).trans HTN12.out)
            have HRW := Lib.hid HR6.out.row
            obtain ⟨g, offg, hA12, hgF⟩ := HRW.out.1 (by simp)
            subst hA12
            have HCP : Hid (ahead.length + 1 ≤ c12 ∧ c12 ≤ maxLen) := Lib.hid (by
              obtain ⟨A', c', e, h1, h2, _⟩ := HR6.out
              injection e with _ _ e3
              subst e3
              exact ⟨by simpa using h1, h2⟩)
            clear HTN12 hgF
            have p0 := HM6.out.cell 0; have p1 := HM6.out.cell 1; have p2 := HM6.out.cell 2; have p3 := HM6.out.cell 3
            have z0 := HM6.out.frozen 0
            have m0 := HT6.out.cell 0; have m1 := HT6.out.cell 1
            have hp6 := HM6.out.lt; have ht6 := HT6.out.lt
            simp at p0 p1 p2 p3 m0 m1
            have g1 : (1 : Int) ≤ (ahead.length : Int) + 1 := by omega
            have g2 : (ahead.length : Int) + 1 ≤ c12 := by have := HCP.out; omega
            have h65 : decide ((ahead.length : Int) + 1 > 64) = false := decide_eq_false (by omega)
            go_wp2_with fail
            obtain ⟨w7, hw7⟩ : ∃ x, w6 = x := ⟨_, rfl⟩
            have HM7 := HM6; have HK7 := HK6; have HF7 := HFR; have HZ7 := HSZ; have HR7 := HRW
            rw [hw7] at HM7 HK7 HF7 HZ7
            (try rw [hw7])
            clear hw7
            have HT7 : Hid (∀ b, F2 b → w7.heap[b]? = w.heap[b]?) := Lib.hid (fun b hb => (HK7.out.block b (by have := hF2 b hb; have := HBZ.out.size; omega) (fun e => hpF2 (e ▸ hb))).trans (HBZ.out.block b (hF2 b hb)))
            refine (twinR_any Am cm m w7 F2 (fun b hx => by have := hF2 b hx; have := HK7.out.size; have := HBZ.out.size; omega) (HMM.out.keep ENode.stays (fun q hq => World.cell?_of_block (HT7.out _ hq)) (fun _ h => h)) (fun x hx => (hzm.1 x hx).2.1) hzm.2.2).mono ?_
            rintro _ w8 ⟨v, rfl, l, hown, hmap, hb8⟩
            have HO8 := Lib.hid hown; have HMAP := Lib.hid hmap; have HB8 := Lib.hid hb8
            have HM8 := Lib.hid (HM7.out.below hb8 HM7.out.lt)
            obtain ⟨Av, cv, rfl⟩ : ∃ A c, v = .slice A m.nodes.length c := by
              obtain ⟨A', c', e⟩ := own_shape hown.row
              exact ⟨A', c', by rw [e, ← hmap, List.length_map]⟩
            clear hown hmap hb8 p0 p1 p2 p3 z0 m0 m1 hp6 ht6
            have p0 := HM8.out.cell 0; have p1 := HM8.out.cell 1; have p2 := HM8.out.cell 2; have p3 := HM8.out.cell 3
            have z1 := HM8.out.frozen 1; have z2 := HM8.out.frozen 2; have z3 := HM8.out.frozen 3
            have hp8 := HM8.out.lt
            simp at p0 p1 p2 p3
            go_wp2
            go_ret
            rw [← HPX.out]
            have hf := ((HM8.out.set_ 1 (.int .i64 m.next)).set_ 2 (.slice Av m.nodes.length cv)).set_ 3 (.slice none 0 0)
            simp at hf
            have hfar : ∀ q, q ≠ p → (((w8.setCell ⟨p, 1, none⟩ (.int .i64 m.next)).setCell ⟨p, 2, none⟩ (.slice Av m.nodes.length cv)).setCell ⟨p, 3, none⟩ (.slice none 0 0)).heap[q]? = w8.heap[q]? := fun q hq => (Below.heap_setCell _ _ _ _ hq).trans ((Below.heap_setCell _ _ _ _ hq).trans (Below.heap_setCell _ _ _ _ hq))
            have hz8 : w12.heap.size ≤ w8.heap.size := by have := HB8.out.size; have := HZ7.out; omega
            have hk8 := KeepO.after HBZ.out (HK7.out.below HB8.out)
            have hwz := HWZ.out
            have hlen : (ahead ++ [here]).length = (ahead.length + 1) := by simp
            refine ⟨rfl, KeepO.setp (KeepO.setp (KeepO.setp hk8 _ _) _ _) _ _, ⟨_, _, _, _, _, _, _, hf, ⟨(some ⟨g, offg, none⟩), c12, by rw [hlen], by rw [hlen]; have := HCP.out; omega, by have := HCP.out; omega, ?_⟩, ?_, IsRow.nil⟩⟩
            · refine HR7.out.keep EModel.stays (fun q hq => ?_) (fun b hb => hb.elim .inl fun h => .inr ⟨by omega, by simp; omega⟩)
              have hqp : q.block ≠ p := by
                rcases hq with hq | hq
                · exact fun e => hpF (e ▸ hq)
                · have := hq.1; omega
              have hql : q.block < w7.heap.size := by
                have := HZ7.out
                rcases hq with hq | hq
                · have := hFz _ hq; have := HK7.out.size; omega
                · have := hq.2; omega
              exact (World.cell?_of_block (hfar _ hqp)).trans ((HB8.out.cell hql).trans (World.cell?_of_block (HF7.out _ hqp)))
            · have := HO8.out.isRow (F := fun b => w7.heap.size ≤ b ∧ b < w8.heap.size) (fun b h1 h2 => ⟨h1, h2⟩)
              rw [HMAP.out] at this
              have hp7 := HM7.out.lt
              have hk7 := HK7.out.size
              exact this.keep ENode.stays (fun q hq => World.cell?_of_block (hfar _ (by have := hq.1; omega))) (fun b hb => .inr ⟨by omega, by simp; omega⟩)
          · go_simp
            obtain ⟨s11, hs11⟩ : ∃ q, w1.heap.size = q := ⟨_, rfl⟩
            obtain ⟨w11, hnw⟩ : ∃ x : World, w1.alloc (.cells #[.int .i64 here.next, .slice X here.nodes.length cx] 27) = x := ⟨_, rfl⟩
            have hb3 : Below w1.heap.size w1 w11 := by rw [← hnw]; exact (Below.refl _ _).alloc (Nat.le_refl _) _
            have hw3 := HBN1.out.size
            have HQ11N11 : Hid (Blk w11 s11 27 #[.int .i64 here.next, .slice X here.nodes.length cx]) := Lib.hid (by rw [← hnw]; exact Blk.new' hs11.symm)
            have HS11 : Hid (wz.heap.size ≤ s11) := Lib.hid (by omega)
            (try rw [hnw])
            (try rw [hs11])
            clear hnw hs11 hw3
            have HBN11 := Lib.hid (HBN1.out.trans (hb3.mono HBN1.out.size))
            have HMN11 := Lib.hid (HMN1.out.below hb3 HMN1.out.lt)
            have HTN11 := Lib.hid (HTN1.out.below hb3 HTN1.out.lt)
            have HE1N11 := Lib.hid (HE1N1.out.below EModel.stays hb3)
            clear HBN1 HMN1 HTN1 HE1N1
            have HX11N11 : Hid (OwnRow 2 27 EModel F w11 wz.heap.size (.slice (some ⟨s11, 0, none⟩) 1 1) [here]) := Lib.hid (OwnRow.one (cs := [.int .i64 here.next, .slice X here.nodes.length cx]) HQ11N11.out HS11.out rfl ⟨_, rfl, X, cx, rfl, HCX.out.1, HCX.out.2, HRX.out.keep ENode.stays (Keep.below HBN11.out hFz) (oth_of hFz HBN11.out.size (fun b e => by obtain rfl : s11 = b := (by injection e); exact HS11.out))⟩)
            clear hb3 HX11N11
            refine hK.out _ _ (fun _ => HSS.out _ HMN11.out) ?_
            have hHeldN11 := HSS.out _ HMN11.out
            clear hK K
            try simp only [Act.put, List.setIfInBounds_toArray, List.set_cons_zero, List.set_cons_succ, Nat.zero_add]
            refine wpAnyY_one (i := 6) rfl (by kernel_rfl) (fun K hK => ?_)
            refine step_dup (P := Try.prog) (E := EModel) (F := F) (l := ahead) EModel.stays w11 (by rfl) (.tmp 15) (.tmp 19) 22 (by rfl) 27 Try.underlying22 model_info rfl (by omega) wz.heap.size s1 (by rfl) HE1N11.out A c (by rfl) (HRA.out.keep EModel.stays (Keep.below HBN11.out hFz) (fun _ h => h)) (fun _ _ h => h.one) (fun b hb => Nat.lt_of_lt_of_le (hFz b hb) HBN11.out.size) (by unfold maxLen; omega) (by omega) HBN11.out.size ?_
            intro A6 c6 w6 hown hb3
            have HA6N6 := Lib.hid hown
            have HBN6 := Lib.hid (HBN11.out.trans (hb3.mono HBN11.out.size))
            have HMN6 := Lib.hid (HMN11.out.below hb3 HMN11.out.lt)
            have HTN6 := Lib.hid (HTN11.out.below hb3 HTN11.out.lt)
            have HQ11N6 := Lib.hid (HQ11N11.out.below hb3 HQ11N11.out.lt)
            clear HBN11 HMN11 HTN11 HQ11N11
            clear hown hb3
            refine hK.out _ _ (fun _ => HSS.out _ HMN6.out) ?_
            have hHeldN6 := HSS.out _ HMN6.out
            clear hK K
            try simp only [Act.put, List.setIfInBounds_toArray, List.set_cons_zero, List.set_cons_succ, Nat.zero_add]
            refine wpAnyY_one (i := 12) rfl (by kernel_rfl) (fun K hK => ?_)
            have hvb : ∀ b, (.slice A6 ahead.length c6 : Value).ownBlock = some b → wz.heap.size ≤ b := by
              obtain ⟨xs, ho⟩ := HA6N6.out.owns
              exact fun b e => (ho.lt b e).1
            have hcell := news_cells HQ11N6.out
            refine step_many (P := Try.prog) (E := EModel) (F := F) EModel.stays w6 (by rfl) (.tmp 20) (.tmp 25) 22 (by rfl) wz.heap.size 27 Try.underlying22 model_info rfl (by omega) (.slice A6 ahead.length c6) ahead (by rfl) HA6N6.out (some ⟨s11, 0, none⟩) 1 [here] [[.int .i64 here.next, .slice X here.nodes.length cx]] (by rfl) rfl (fun cs hcs => by simp at hcs; subst hcs; rfl) (fun i hi hi' => by
                have hi0 : i = 0 := by simp at hi; omega
                subst hi0
                exact ⟨_, rfl, X, cx, rfl, HCX.out.1, HCX.out.2, HRX.out.keep ENode.stays (Keep.below HBN6.out hFz) (oth_of hFz HBN6.out.size hvb)⟩) (fun e => by cases e) (fun ad e => by cases e; simpa using hcell) (fun cs hcs u hu => by
                simp at hcs; subst hcs
                simp at hu
                rcases hu with rfl | rfl <;> rfl) (by simp only [List.length_cons, List.length_nil]; unfold maxLen; omega) (by simp only [List.length_cons, List.length_nil]; omega) HBN6.out.size ?_
            intro A12 c12 w12 hown hg hat
            have hb3 : Below wz.heap.size wz w12 := HBN6.out.grown hg HBN6.out.size (fun k e => hvb k e)
            have HBN12 := Lib.hid hb3
            have HMN12 := Lib.hid (HMN6.out.grown hg (fun e => by have := hvb _ e.symm; omega))
            have HA12N12 := Lib.hid hown
            have HTN12 := Lib.hid (HTN6.out.grown hg (fun e => by have := hvb _ e.symm; have := HWZ.out; omega))
            clear hb3 hown hg hat hvb hcell HTN6 HBN6 HMN6
            rw [show ([here] : List AModel).length = 1 from rfl] at HA12N12 ⊢
            refine hK.out _ _ (fun _ => HSS.out _ HMN12.out) ?_
            have hHeldN12 := HSS.out _ HMN12.out
            have z0 := HMN12.out.frozen 0
            clear hK K
            try simp only [Act.put, List.setIfInBounds_toArray, List.set_cons_zero, List.set_cons_succ, Nat.zero_add]
            refine wpAnyY_take0 (i := 13) (v := ?_) rfl (by kernel_rfl) (by kernel_rfl) (by kernel_rfl) (by kernel_rfl) (fun _ _ _ h => h) (Or.inl ⟨by rfl, ?_⟩) ?_
            rotate_left 1
            · (intro w' _; go_simp); try with_reducible rfl
            try simp only [Act.put, List.setIfInBounds_toArray, List.set_cons_zero, List.set_cons_succ, Nat.zero_add]
            refine wpAnyY_take (i := 14) (v := ?_) rfl (by kernel_rfl) (by kernel_rfl) (by kernel_rfl) (by kernel_rfl) (fun _ _ _ h => h) (Or.inl ⟨by rfl, ?_⟩) (by assumption) ?_
            rotate_left 1
            · (intro w' hSw; obtain ⟨s0, s1, s2, s3⟩ := hSw; go_simp); try with_reducible rfl
            try simp only [Act.put, List.setIfInBounds_toArray, List.set_cons_zero, List.set_cons_succ, Nat.zero_add]
            refine wpAnyY_one0 (i := 15) rfl (by kernel_rfl) (by kernel_rfl) (fun K hK => ?_)
            go_simp
            refine hK.out _ _ ?_
            clear z0
            clear hK K
            try simp only [Act.put, List.setIfInBounds_toArray, List.set_cons_zero, List.set_cons_succ, Nat.zero_add]
            refine wpAnyY_done (by kernel_rfl) ?_ _
            obtain ⟨w6, hw6⟩ : ∃ x, w12.setCell ⟨p, 0, none⟩ (.slice A12 (ahead.length + 1) c12) = x := ⟨_, rfl⟩
            have HM6 : Hid (Blk w6 p 49 #[.slice A12 (ahead.length + 1) c12, .int .i64 here.next, .slice X here.nodes.length cx, .slice B behind.length d]) := Lib.hid (by rw [← hw6]; simpa using HMN12.out.set_ 0 (.slice A12 (ahead.length + 1) c12))
            have HK6 : Hid (KeepO (· = p) wz w6) := Lib.hid (by rw [← hw6]; exact KeepO.setp ((KeepO.refl _ _).below HBN12.out) _ _)
            have HR6 : Hid (IsRow 2 EModel w12 (fun b => F b ∨ (wz.heap.size ≤ b ∧ b < w12.heap.size)) (.slice A12 (ahead.length + 1) c12) (ahead ++ [here])) := Lib.hid (HA12N12.out.isRow EModel.stays (F' := fun b => F b ∨ (wz.heap.size ≤ b ∧ b < w12.heap.size)) (fun b h1 _ => .inl h1) (fun b h1 h2 => .inr ⟨h1, h2⟩))
            have HSZ : Hid (w6.heap.size = w12.heap.size) := Lib.hid (by rw [← hw6]; simp)
            have HFR : Hid (∀ q, q ≠ p → w6.heap[q]? = w12.heap[q]?) := Lib.hid (fun q hq => by rw [← hw6]; exact Below.heap_setCell _ _ _ _ hq)
            (try rw [hw6])
            clear hw6 HMN12 HA12N12
            have HT6 : Hid (Blk w6 w.heap.size 27 #[.int .i64 m.next, .slice Am m.nodes.length cm]) := Lib.hid ((HFR.out _ (by omega)).trans HTN12.out)
            have HRW := Lib.hid HR6.out.row
            obtain ⟨g, offg, hA12, hgF⟩ := HRW.out.1 (by simp)
            subst hA12
            have HCP : Hid (ahead.length + 1 ≤ c12 ∧ c12 ≤ maxLen) := Lib.hid (by
              obtain ⟨A', c', e, h1, h2, _⟩ := HR6.out
              injection e with _ _ e3
              subst e3
              exact ⟨by simpa using h1, h2⟩)
            clear HTN12 hgF
            have p0 := HM6.out.cell 0; have p1 := HM6.out.cell 1; have p2 := HM6.out.cell 2; have p3 := HM6.out.cell 3
            have z0 := HM6.out.frozen 0
            have m0 := HT6.out.cell 0; have m1 := HT6.out.cell 1
            have hp6 := HM6.out.lt; have ht6 := HT6.out.lt
            simp at p0 p1 p2 p3 m0 m1
            have g1 : (1 : Int) ≤ (ahead.length : Int) + 1 := by omega
            have g2 : (ahead.length : Int) + 1 ≤ c12 := by have := HCP.out; omega
            have h65 : decide ((ahead.length : Int) + 1 > 64) = false := decide_eq_false (by omega)
            go_wp2_with fail
            obtain ⟨w7, hw7⟩ : ∃ x, w6 = x := ⟨_, rfl⟩
            have HM7 := HM6; have HK7 := HK6; have HF7 := HFR; have HZ7 := HSZ; have HR7 := HRW
            rw [hw7] at HM7 HK7 HF7 HZ7
            (try rw [hw7])
            clear hw7
            have HT7 : Hid (∀ b, F2 b → w7.heap[b]? = w.heap[b]?) := Lib.hid (fun b hb => (HK7.out.block b (by have := hF2 b hb; have := HBZ.out.size; omega) (fun e => hpF2 (e ▸ hb))).trans (HBZ.out.block b (hF2 b hb)))
            refine (twinR_any Am cm m w7 F2 (fun b hx => by have := hF2 b hx; have := HK7.out.size; have := HBZ.out.size; omega) (HMM.out.keep ENode.stays (fun q hq => World.cell?_of_block (HT7.out _ hq)) (fun _ h => h)) (fun x hx => (hzm.1 x hx).2.1) hzm.2.2).mono ?_
            rintro _ w8 ⟨v, rfl, l, hown, hmap, hb8⟩
            have HO8 := Lib.hid hown; have HMAP := Lib.hid hmap; have HB8 := Lib.hid hb8
            have HM8 := Lib.hid (HM7.out.below hb8 HM7.out.lt)
            obtain ⟨Av, cv, rfl⟩ : ∃ A c, v = .slice A m.nodes.length c := by
              obtain ⟨A', c', e⟩ := own_shape hown.row
              exact ⟨A', c', by rw [e, ← hmap, List.length_map]⟩
            clear hown hmap hb8 p0 p1 p2 p3 z0 m0 m1 hp6 ht6
            have p0 := HM8.out.cell 0; have p1 := HM8.out.cell 1; have p2 := HM8.out.cell 2; have p3 := HM8.out.cell 3
            have z1 := HM8.out.frozen 1; have z2 := HM8.out.frozen 2; have z3 := HM8.out.frozen 3
            have hp8 := HM8.out.lt
            simp at p0 p1 p2 p3
            go_wp2
            go_ret
            rw [← HPX.out]
            have hf := ((HM8.out.set_ 1 (.int .i64 m.next)).set_ 2 (.slice Av m.nodes.length cv)).set_ 3 (.slice none 0 0)
            simp at hf
            have hfar : ∀ q, q ≠ p → (((w8.setCell ⟨p, 1, none⟩ (.int .i64 m.next)).setCell ⟨p, 2, none⟩ (.slice Av m.nodes.length cv)).setCell ⟨p, 3, none⟩ (.slice none 0 0)).heap[q]? = w8.heap[q]? := fun q hq => (Below.heap_setCell _ _ _ _ hq).trans ((Below.heap_setCell _ _ _ _ hq).trans (Below.heap_setCell _ _ _ _ hq))
            have hz8 : w12.heap.size ≤ w8.heap.size := by have := HB8.out.size; have := HZ7.out; omega
            have hk8 := KeepO.after HBZ.out (HK7.out.below HB8.out)
            have hwz := HWZ.out
            have hlen : (ahead ++ [here]).length = (ahead.length + 1) := by simp
            refine ⟨rfl, KeepO.setp (KeepO.setp (KeepO.setp hk8 _ _) _ _) _ _, ⟨_, _, _, _, _, _, _, hf, ⟨(some ⟨g, offg, none⟩), c12, by rw [hlen], by rw [hlen]; have := HCP.out; omega, by have := HCP.out; omega, ?_⟩, ?_, IsRow.nil⟩⟩
            · refine HR7.out.keep EModel.stays (fun q hq => ?_) (fun b hb => hb.elim .inl fun h => .inr ⟨by omega, by simp; omega⟩)
              have hqp : q.block ≠ p := by
                rcases hq with hq | hq
                · exact fun e => hpF (e ▸ hq)
                · have := hq.1; omega
              have hql : q.block < w7.heap.size := by
                have := HZ7.out
                rcases hq with hq | hq
                · have := hFz _ hq; have := HK7.out.size; omega
                · have := hq.2; omega
              exact (World.cell?_of_block (hfar _ hqp)).trans ((HB8.out.cell hql).trans (World.cell?_of_block (HF7.out _ hqp)))
            · have := HO8.out.isRow (F := fun b => w7.heap.size ≤ b ∧ b < w8.heap.size) (fun b h1 h2 => ⟨h1, h2⟩)
              rw [HMAP.out] at this
              have hp7 := HM7.out.lt
              have hk7 := HK7.out.size
              exact this.keep ENode.stays (fun q hq => World.cell?_of_block (hfar _ (by have := hq.1; omega))) (fun b hb => .inr ⟨by omega, by simp; omega⟩)
        · go_simp
          obtain ⟨s11, hs11⟩ : ∃ q, u.heap.size = q := ⟨_, rfl⟩
          obtain ⟨w11, hnw⟩ : ∃ x : World, u.alloc (.cells #[.int .i64 here.next, .slice X here.nodes.length cx] 27) = x := ⟨_, rfl⟩
          have hb3 : Below u.heap.size u w11 := by rw [← hnw]; exact (Below.refl _ _).alloc (Nat.le_refl _) _
          have hw3 := HBU.out.size
          have HQ11N11 : Hid (Blk w11 s11 27 #[.int .i64 here.next, .slice X here.nodes.length cx]) := Lib.hid (by rw [← hnw]; exact Blk.new' hs11.symm)
          have HS11 : Hid (wz.heap.size ≤ s11) := Lib.hid (by omega)
          (try rw [hnw])
          (try rw [hs11])
          clear hnw hs11 hw3
          have HBN11 := Lib.hid (HBU.out.trans (hb3.mono HBU.out.size))
          have HMN11 := Lib.hid (HMU.out.below hb3 HMU.out.lt)
          have HTN11 := Lib.hid (HTU.out.below hb3 HTU.out.lt)
          clear HBU HMU HTU
          have HX11N11 : Hid (OwnRow 2 27 EModel F w11 wz.heap.size (.slice (some ⟨s11, 0, none⟩) 1 1) [here]) := Lib.hid (OwnRow.one (cs := [.int .i64 here.next, .slice X here.nodes.length cx]) HQ11N11.out HS11.out rfl ⟨_, rfl, X, cx, rfl, HCX.out.1, HCX.out.2, HRX.out.keep ENode.stays (Keep.below HBN11.out hFz) (oth_of hFz HBN11.out.size (fun b e => by obtain rfl : s11 = b := (by injection e); exact HS11.out))⟩)
          clear hb3 HX11N11
          refine hK.out _ _ (fun _ => HSS.out _ HMN11.out) ?_
          have hHeldN11 := HSS.out _ HMN11.out
          clear hK K
          try simp only [Act.put, List.setIfInBounds_toArray, List.set_cons_zero, List.set_cons_succ, Nat.zero_add]
          refine wpAnyY_one (i := 1) rfl (by kernel_rfl) (fun K hK => ?_)
          go_simp
          obtain ⟨s1, hs1⟩ : ∃ q, w11.heap.size = q := ⟨_, rfl⟩
          have HE1N1 : Hid (OwnRow 2 27 EModel F (w11.alloc (.cells #[] 27)) wz.heap.size (.slice (some ⟨s1, 0, none⟩) 0 0) ([] : List AModel)) := Lib.hid (by rw [← hs1]; exact OwnRow.made _ 2 w11 HBN11.out.size)
          obtain ⟨w1, hnw⟩ : ∃ x : World, w11.alloc (.cells #[] 27) = x := ⟨_, rfl⟩
          have hb3 : Below w11.heap.size w11 w1 := by rw [← hnw]; exact (Below.refl _ _).alloc (Nat.le_refl _) _
          rw [hnw] at HE1N1
          (try rw [hnw])
          (try rw [hs1])
          clear hnw hs1
          have HBN1 := Lib.hid (HBN11.out.trans (hb3.mono HBN11.out.size))
          have HMN1 := Lib.hid (HMN11.out.below hb3 HMN11.out.lt)
          have HTN1 := Lib.hid (HTN11.out.below hb3 HTN11.out.lt)
          have HQ11N1 := Lib.hid (HQ11N11.out.below hb3 HQ11N11.out.lt)
          clear HBN11 HMN11 HTN11 HQ11N11
          clear hb3
          refine hK.out _ _ (fun _ => HSS.out _ HMN1.out) ?_
          have hHeldN1 := HSS.out _ HMN1.out
          clear hK K
          try simp only [Act.put, List.setIfInBounds_toArray, List.set_cons_zero, List.set_cons_succ, Nat.zero_add]
          refine wpAnyY_one (i := 6) rfl (by kernel_rfl) (fun K hK => ?_)
          refine step_dup (P := Try.prog) (E := EModel) (F := F) (l := ahead) EModel.stays w1 (by rfl) (.tmp 15) (.tmp 19) 22 (by rfl) 27 Try.underlying22 model_info rfl (by omega) wz.heap.size s1 (by rfl) HE1N1.out A c (by rfl) (HRA.out.keep EModel.stays (Keep.below HBN1.out hFz) (fun _ h => h)) (fun _ _ h => h.one) (fun b hb => Nat.lt_of_lt_of_le (hFz b hb) HBN1.out.size) (by unfold maxLen; omega) (by omega) HBN1.out.size ?_
          intro A6 c6 w6 hown hb3
          have HA6N6 := Lib.hid hown
          have HBN6 := Lib.hid (HBN1.out.trans (hb3.mono HBN1.out.size))
          have HMN6 := Lib.hid (HMN1.out.below hb3 HMN1.out.lt)
          have HTN6 := Lib.hid (HTN1.out.below hb3 HTN1.out.lt)
          have HQ11N6 := Lib.hid (HQ11N1.out.below hb3 HQ11N1.out.lt)
          clear HBN1 HMN1 HTN1 HQ11N1
          clear hown hb3
          refine hK.out _ _ (fun _ => HSS.out _ HMN6.out) ?_
          have hHeldN6 := HSS.out _ HMN6.out
          clear hK K
          try simp only [Act.put, List.setIfInBounds_toArray, List.set_cons_zero, List.set_cons_succ, Nat.zero_add]
          refine wpAnyY_one (i := 12) rfl (by kernel_rfl) (fun K hK => ?_)
          have hvb : ∀ b, (.slice A6 ahead.length c6 : Value).ownBlock = some b → wz.heap.size ≤ b := by
            obtain ⟨xs, ho⟩ := HA6N6.out.owns
            exact fun b e => (ho.lt b e).1
          have hcell := news_cells HQ11N6.out
          refine step_many (P := Try.prog) (E := EModel) (F := F) EModel.stays w6 (by rfl) (.tmp 20) (.tmp 25) 22 (by rfl) wz.heap.size 27 Try.underlying22 model_info rfl (by omega) (.slice A6 ahead.length c6) ahead (by rfl) HA6N6.out (some ⟨s11, 0, none⟩) 1 [here] [[.int .i64 here.next, .slice X here.nodes.length cx]] (by rfl) rfl (fun cs hcs => by simp at hcs; subst hcs; rfl) (fun i hi hi' => by
              have hi0 : i = 0 := by simp at hi; omega
              subst hi0
              exact ⟨_, rfl, X, cx, rfl, HCX.out.1, HCX.out.2, HRX.out.keep ENode.stays (Keep.below HBN6.out hFz) (oth_of hFz HBN6.out.size hvb)⟩) (fun e => by cases e) (fun ad e => by cases e; simpa using hcell) (fun cs hcs u hu => by
              simp at hcs; subst hcs
              simp at hu
              rcases hu with rfl | rfl <;> rfl) (by simp only [List.length_cons, List.length_nil]; unfold maxLen; omega) (by simp only [List.length_cons, List.length_nil]; omega) HBN6.out.size ?_
          intro A12 c12 w12 hown hg hat
          have hb3 : Below wz.heap.size wz w12 := HBN6.out.grown hg HBN6.out.size (fun k e => hvb k e)
          have HBN12 := Lib.hid hb3
          have HMN12 := Lib.hid (HMN6.out.grown hg (fun e => by have := hvb _ e.symm; omega))
          have HA12N12 := Lib.hid hown
          have HTN12 := Lib.hid (HTN6.out.grown hg (fun e => by have := hvb _ e.symm; have := HWZ.out; omega))
          clear hb3 hown hg hat hvb hcell HTN6 HBN6 HMN6
          rw [show ([here] : List AModel).length = 1 from rfl] at HA12N12 ⊢
          refine hK.out _ _ (fun _ => HSS.out _ HMN12.out) ?_
          have hHeldN12 := HSS.out _ HMN12.out
          have z0 := HMN12.out.frozen 0
          clear hK K
          try simp only [Act.put, List.setIfInBounds_toArray, List.set_cons_zero, List.set_cons_succ, Nat.zero_add]
          refine wpAnyY_take0 (i := 13) (v := ?_) rfl (by kernel_rfl) (by kernel_rfl) (by kernel_rfl) (by kernel_rfl) (fun _ _ _ h => h) (Or.inl ⟨by rfl, ?_⟩) ?_
          rotate_left 1
          · (intro w' _; go_simp); try with_reducible rfl
          try simp only [Act.put, List.setIfInBounds_toArray, List.set_cons_zero, List.set_cons_succ, Nat.zero_add]
          refine wpAnyY_take (i := 14) (v := ?_) rfl (by kernel_rfl) (by kernel_rfl) (by kernel_rfl) (by kernel_rfl) (fun _ _ _ h => h) (Or.inl ⟨by rfl, ?_⟩) (by assumption) ?_
          rotate_left 1
          · (intro w' hSw; obtain ⟨s0, s1, s2, s3⟩ := hSw; go_simp); try with_reducible rfl
          try simp only [Act.put, List.setIfInBounds_toArray, List.set_cons_zero, List.set_cons_succ, Nat.zero_add]
          refine wpAnyY_one0 (i := 15) rfl (by kernel_rfl) (by kernel_rfl) (fun K hK => ?_)
          go_simp
          refine hK.out _ _ ?_
          clear z0
          clear hK K
          try simp only [Act.put, List.setIfInBounds_toArray, List.set_cons_zero, List.set_cons_succ, Nat.zero_add]
          refine wpAnyY_done (by kernel_rfl) ?_ _
          obtain ⟨w6, hw6⟩ : ∃ x, w12.setCell ⟨p, 0, none⟩ (.slice A12 (ahead.length + 1) c12) = x := ⟨_, rfl⟩
          have HM6 : Hid (Blk w6 p 49 #[.slice A12 (ahead.length + 1) c12, .int .i64 here.next, .slice X here.nodes.length cx, .slice B behind.length d]) := Lib.hid (by rw [← hw6]; simpa using HMN12.out.set_ 0 (.slice A12 (ahead.length + 1) c12))
          have HK6 : Hid (KeepO (· = p) wz w6) := Lib.hid (by rw [← hw6]; exact KeepO.setp ((KeepO.refl _ _).below HBN12.out) _ _)
          have HR6 : Hid (IsRow 2 EModel w12 (fun b => F b ∨ (wz.heap.size ≤ b ∧ b < w12.heap.size)) (.slice A12 (ahead.length + 1) c12) (ahead ++ [here])) := Lib.hid (HA12N12.out.isRow EModel.stays (F' := fun b => F b ∨ (wz.heap.size ≤ b ∧ b < w12.heap.size)) (fun b h1 _ => .inl h1) (fun b h1 h2 => .inr ⟨h1, h2⟩))
          have HSZ : Hid (w6.heap.size = w12.heap.size) := Lib.hid (by rw [← hw6]; simp)
          have HFR : Hid (∀ q, q ≠ p → w6.heap[q]? = w12.heap[q]?) := Lib.hid (fun q hq => by rw [← hw6]; exact Below.heap_setCell _ _ _ _ hq)
          (try rw [hw6])
          clear hw6 HMN12 HA12N12
          have HT6 : Hid (Blk w6 w.heap.size 27 #[.int .i64 m.next, .slice Am m.nodes.length cm]) := Lib.hid ((HFR.out _ (by omega)).trans HTN12.out)
          have HRW := Lib.hid HR6.out.row
          obtain ⟨g, offg, hA12, hgF⟩ := HRW.out.1 (by simp)
          subst hA12
          have HCP : Hid (ahead.length + 1 ≤ c12 ∧ c12 ≤ maxLen) := Lib.hid (by
            obtain ⟨A', c', e, h1, h2, _⟩ := HR6.out
            injection e with _ _ e3
            subst e3
            exact ⟨by simpa using h1, h2⟩)
          clear HTN12 hgF
          have p0 := HM6.out.cell 0; have p1 := HM6.out.cell 1; have p2 := HM6.out.cell 2; have p3 := HM6.out.cell 3
          have z0 := HM6.out.frozen 0
          have m0 := HT6.out.cell 0; have m1 := HT6.out.cell 1
          have hp6 := HM6.out.lt; have ht6 := HT6.out.lt
          simp at p0 p1 p2 p3 m0 m1
          have g1 : (1 : Int) ≤ (ahead.length : Int) + 1 := by omega
          have g2 : (ahead.length : Int) + 1 ≤ c12 := by have := HCP.out; omega
          have h65 : decide ((ahead.length : Int) + 1 > 64) = false := decide_eq_false (by omega)
          go_wp2_with fail
          obtain ⟨w7, hw7⟩ : ∃ x, w6 = x := ⟨_, rfl⟩
          have HM7 := HM6; have HK7 := HK6; have HF7 := HFR; have HZ7 := HSZ; have HR7 := HRW
          rw [hw7] at HM7 HK7 HF7 HZ7
          (try rw [hw7])
          clear hw7
          have HT7 : Hid (∀ b, F2 b → w7.heap[b]? = w.heap[b]?) := Lib.hid (fun b hb => (HK7.out.block b (by have := hF2 b hb; have := HBZ.out.size; omega) (fun e => hpF2 (e ▸ hb))).trans (HBZ.out.block b (hF2 b hb)))
          refine (twinR_any Am cm m w7 F2 (fun b hx => by have := hF2 b hx; have := HK7.out.size; have := HBZ.out.size; omega) (HMM.out.keep ENode.stays (fun q hq => World.cell?_of_block (HT7.out _ hq)) (fun _ h => h)) (fun x hx => (hzm.1 x hx).2.1) hzm.2.2).mono ?_
          rintro _ w8 ⟨v, rfl, l, hown, hmap, hb8⟩
          have HO8 := Lib.hid hown; have HMAP := Lib.hid hmap; have HB8 := Lib.hid hb8
          have HM8 := Lib.hid (HM7.out.below hb8 HM7.out.lt)
          obtain ⟨Av, cv, rfl⟩ : ∃ A c, v = .slice A m.nodes.length c := by
            obtain ⟨A', c', e⟩ := own_shape hown.row
            exact ⟨A', c', by rw [e, ← hmap, List.length_map]⟩
          clear hown hmap hb8 p0 p1 p2 p3 z0 m0 m1 hp6 ht6
          have p0 := HM8.out.cell 0; have p1 := HM8.out.cell 1; have p2 := HM8.out.cell 2; have p3 := HM8.out.cell 3
          have z1 := HM8.out.frozen 1; have z2 := HM8.out.frozen 2; have z3 := HM8.out.frozen 3
          have hp8 := HM8.out.lt
          simp at p0 p1 p2 p3
          go_wp2
          go_ret
          rw [← HPX.out]
          have hf := ((HM8.out.set_ 1 (.int .i64 m.next)).set_ 2 (.slice Av m.nodes.length cv)).set_ 3 (.slice none 0 0)
          simp at hf
          have hfar : ∀ q, q ≠ p → (((w8.setCell ⟨p, 1, none⟩ (.int .i64 m.next)).setCell ⟨p, 2, none⟩ (.slice Av m.nodes.length cv)).setCell ⟨p, 3, none⟩ (.slice none 0 0)).heap[q]? = w8.heap[q]? := fun q hq => (Below.heap_setCell _ _ _ _ hq).trans ((Below.heap_setCell _ _ _ _ hq).trans (Below.heap_setCell _ _ _ _ hq))
          have hz8 : w12.heap.size ≤ w8.heap.size := by have := HB8.out.size; have := HZ7.out; omega
          have hk8 := KeepO.after HBZ.out (HK7.out.below HB8.out)
          have hwz := HWZ.out
          have hlen : (ahead ++ [here]).length = (ahead.length + 1) := by simp
          refine ⟨rfl, KeepO.setp (KeepO.setp (KeepO.setp hk8 _ _) _ _) _ _, ⟨_, _, _, _, _, _, _, hf, ⟨(some ⟨g, offg, none⟩), c12, by rw [hlen], by rw [hlen]; have := HCP.out; omega, by have := HCP.out; omega, ?_⟩, ?_, IsRow.nil⟩⟩
          · refine HR7.out.keep EModel.stays (fun q hq => ?_) (fun b hb => hb.elim .inl fun h => .inr ⟨by omega, by simp; omega⟩)
            have hqp : q.block ≠ p := by
              rcases hq with hq | hq
              · exact fun e => hpF (e ▸ hq)
              · have := hq.1; omega
            have hql : q.block < w7.heap.size := by
              have := HZ7.out
              rcases hq with hq | hq
              · have := hFz _ hq; have := HK7.out.size; omega
              · have := hq.2; omega
            exact (World.cell?_of_block (hfar _ hqp)).trans ((HB8.out.cell hql).trans (World.cell?_of_block (HF7.out _ hqp)))
          · have := HO8.out.isRow (F := fun b => w7.heap.size ≤ b ∧ b < w8.heap.size) (fun b h1 h2 => ⟨h1, h2⟩)
            rw [HMAP.out] at this
            have hp7 := HM7.out.lt
            have hk7 := HK7.out.size
            exact this.keep ENode.stays (fun q hq => World.cell?_of_block (hfar _ (by have := hq.1; omega))) (fun b hb => .inr ⟨by omega, by simp; omega⟩)
  · rw [pushP_no hE]
    have HRT : Hid (∀ w', Below w.heap.size w w' → Calls Try.prog 40 #[.agg #[.int .i64 m.next, .slice Am m.nodes.length cm]] w' fun e w2 => e = .returned (.bool false) ∧ Below w'.heap.size w' w2) := Lib.hid (fun w' hb => by
      have := right_any Am cm m w' F2 (fun b hx => Nat.lt_of_lt_of_le (hF2 b hx) hb.size) (HMM.out.keep ENode.stays (Keep.below hb hF2) (fun _ h => h)) (fun x hx => (hzm.1 x hx).1.1) (by have := hzm.2.2; omega)
      rw [(right_check m).2 hE] at this
      exact this)
    clear hE
    go_enter Try.func17, Try.ntmps17
    go_upto_region 1 with fail
    obtain ⟨u0, hu0⟩ : ∃ u : World, w.alloc (.cells #[.int .i64 m.next, .slice Am m.nodes.length cm] 27) = u := ⟨_, rfl⟩
    have HB0 : Hid (Below w.heap.size w u0) := Lib.hid (by rw [← hu0]; exact (Below.refl w.heap.size w).alloc (Nat.le_refl _) _)
    have HT0 : Hid (Blk u0 w.heap.size 27 #[.int .i64 m.next, .slice Am m.nodes.length cm]) := Lib.hid (by rw [← hu0]; exact Blk.new _ _ _)
    have HP0 := Lib.hid (HPB.out.below HB0.out hplt)
    (try rw [hu0])
    clear hu0
    have m0 := HT0.out.cell 0; have m1 := HT0.out.cell 1
    have hmlt := HT0.out.lt
    simp at m0 m1
    go_wp2_with fail
    refine (HRT.out _ HB0.out).mono ?_
    rintro _ w1 ⟨rfl, hb⟩
    have HB1 := Lib.hid (HB0.out.trans (hb.mono HB0.out.size))
    have HT1 := Lib.hid (HT0.out.below hb hmlt)
    have HP1 := Lib.hid (HP0.out.below hb HP0.out.lt)
    clear hb HB0 HT0 HP0 m0 m1 hmlt HRT
    go_wp2
    go_ret
    exact ⟨rfl, (KeepO.refl _ _).below HB1.out, HPAST.out _ HB1.out⟩
end Go.Proofs.Ytpjkifbicfcajaa
