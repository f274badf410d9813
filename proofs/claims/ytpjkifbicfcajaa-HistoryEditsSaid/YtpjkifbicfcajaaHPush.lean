import Derived.Test.YtpjkifbicfcajaaHTo
import Derived.Test.YtpjkifbicfcajaaRowM
import Derived.Test.YtpjkifbicfcajaaASameOwn
set_option linter.unusedSimpArgs false
set_option linter.unusedVariables false
/- a model is pushed behind the one that is now -/
namespace Go.Proofs.Ytpjkifbicfcajaa
open Go Go.RowKit

theorem pushP_no {P : APast} {m : AModel} (h : checkI m = 29) : pushP P m = (29, P) := by unfold pushP; rw [h]; rfl
theorem pushP_same {P : APast} {m : AModel} (h : checkI m = 0) (e : m = P.here) : pushP P m = (0, P) := by unfold pushP; rw [h, if_neg (by simp), if_pos e]
theorem pushP_new {P : APast} {m : AModel} (h : checkI m = 0) (e : m ≠ P.here) : pushP P m = (0, ⟨if P.ahead.length + 1 > 64 then (P.ahead ++ [P.here]).tail else P.ahead ++ [P.here], m, []⟩) := by unfold pushP; rw [h, if_neg (by simp), if_neg e]
theorem take_now (P : APast) : P.list.take (P.ahead.length + 1) = P.ahead ++ [P.here] := by
  unfold APast.list
  rw [List.take_append, List.take_of_length_le (by omega)]
  simp
theorem IsPast.mono {w : World} {F F' : Nat → Prop} {p : Nat} {P : APast} (h : IsPast w F p P) (hF : ∀ b, F b → F' b) : IsPast w F' p P := h.keep (Keep.refl _ _) hF rfl

set_option maxRecDepth 100000 in
set_option maxHeartbeats 4000000 in
theorem push_any (p : Nat) (P : APast) (A : Option Addr) (c : Nat) (m : AModel) (w : World) (F F2 : Nat → Prop) (hF : ∀ b, F b → b < w.heap.size) (hF2 : ∀ b, F2 b → b < w.heap.size) (hpF : ¬ F p) (h : IsPast w F p P) (hfit : P.Fits)
    (hm : RowOf 7 ENode w F2 A m.nodes) (hzm : ModAll m) :
    Calls Try.prog 16 #[.pointer (some ⟨p, 0, none⟩), .agg #[.int .i64 m.next, .slice A m.nodes.length c]] w fun e w' => e = .returned (.int .i64 (pushP P m).1) ∧ KeepO (· = p) w w' ∧ IsPast w' (fun b => F b ∨ (w.heap.size ≤ b ∧ b < w'.heap.size)) p (pushP P m).2 := by
  obtain ⟨Ap, cp, hb, hc1, hc2, hr⟩ := h
  have hnow := now_lt P
  have hlen : P.list.length ≤ 65 := hfit
  obtain ⟨b, off, S, cs, rfl, hbF, d0, d1, hs1, hs2, hrow⟩ := model_at hr hnow
  rw [now_here P] at d0 d1 hs1 hrow
  have hbw := hF b hbF
  have hplt := hb.lt
  have HR := Lib.hid hr; have HPB := Lib.hid hb; have HROW := Lib.hid hrow; have HC := Lib.hid (And.intro hc1 hc2); have HMM := Lib.hid hm
  have HN := Lib.hid (fun (w' : World) (h : Blk w' p 69 #[.slice (some ⟨b, off, none⟩) P.list.length cp, .int .i64 P.ahead.length]) => none_any p P.list.length cp (some ⟨b, off, none⟩) P.ahead.length w' h (by omega))
  have HD : Hid (∀ w', Below w.heap.size w w' → w'.cell? ⟨b, off + P.ahead.length * 2, none⟩ = some (.int .i64 P.here.next) ∧ w'.cell? ⟨b, off + P.ahead.length * 2 + 1, none⟩ = some (.slice S P.here.nodes.length cs)) := Lib.hid (fun w' hb' => ⟨(hb'.cell (p := ⟨b, _, none⟩) hbw).trans d0, (hb'.cell (p := ⟨b, _, none⟩) hbw).trans d1⟩)
  have HPAST : Hid (∀ w', Below w.heap.size w w' → IsPast w' (fun b => F b ∨ (w.heap.size ≤ b ∧ b < w'.heap.size)) p P) := Lib.hid (fun w' hb' => IsPast.mono (IsPast.below ⟨_, _, hb, hc1, hc2, hr⟩ hb' hF) (fun _ h => .inl h))
  clear hb hr hrow d0 d1 hs1 hs2 hc1 hc2 hm hfit
  have n0 : (0 : Int) ≤ P.ahead.length := by omega
  have n1 : (P.ahead.length : Int) < P.list.length := by omega
  have n2 : (P.list.length : Int) ≤ 65 := by omega
  have n3 : IntKind.i64.wrap ((P.ahead.length : Int) + 1) = (P.ahead.length : Int) + 1 := IntWalk.i64_in _ ⟨by omega, by omega⟩
  have n4 : (P.ahead.length : Int) + 1 ≤ cp := by have := HC.out.1; omega
  have n5 : 0 ≤ (P.ahead.length : Int) + 1 := by omega
  rcases checkI_two m with hE | hE
  · by_cases hsame : m = P.here
    · rw [pushP_same hE hsame]
      have HSM := Lib.hid hsame
      clear hsame
      have HCK : Hid (∀ w', Below w.heap.size w w' → Calls Try.prog 30 #[.agg #[.int .i64 m.next, .slice A m.nodes.length c]] w' fun e w2 => e = .returned (.int .i64 0) ∧ Below w'.heap.size w' w2) := Lib.hid (fun w' hb => by
        have := check_any A c m w' F2 (fun b hx => Nat.lt_of_lt_of_le (hF2 b hx) hb.size) (HMM.out.keep ENode.stays (Keep.below hb hF2) (fun _ h => h)) (fun x hx => (hzm.1 x hx).1) (by have := hzm.2.2; omega)
        rw [hE] at this
        exact this)
      clear hE
      go_enter Try.func16, Try.ntmps16
      go_upto_region 1 with fail
      obtain ⟨u0, hu0⟩ : ∃ u : World, w.alloc (.cells #[.int .i64 m.next, .slice A m.nodes.length c] 27) = u := ⟨_, rfl⟩
      have HB0 : Hid (Below w.heap.size w u0) := Lib.hid (by rw [← hu0]; exact (Below.refl w.heap.size w).alloc (Nat.le_refl _) _)
      have HM0 : Hid (Blk u0 w.heap.size 27 #[.int .i64 m.next, .slice A m.nodes.length c]) := Lib.hid (by rw [← hu0]; exact Blk.new _ _ _)
      have HP0 : Hid (Blk u0 p 69 #[.slice (some ⟨b, off, none⟩) P.list.length cp, .int .i64 P.ahead.length]) := Lib.hid (HPB.out.below HB0.out hplt)
      (try rw [hu0])
      clear hu0
      have m0 := HM0.out.cell 0; have m1 := HM0.out.cell 1
      have hmlt := HM0.out.lt
      simp at m0 m1
      go_wp2_with (go_at_call 41; refine (HN.out _ HP0.out).mono ?_; rintro _ _ ⟨rfl, rfl⟩)
      refine (HCK.out _ HB0.out).mono ?_
      rintro _ w1 ⟨rfl, hb⟩
      have HB1 := Lib.hid (HB0.out.trans (hb.mono HB0.out.size))
      have HM1 := Lib.hid (HM0.out.below hb hmlt)
      have HP1 := Lib.hid (HP0.out.below hb HP0.out.lt)
      clear hb HB0 HM0 HP0 m0 m1 hmlt HCK
      have m0 := HM1.out.cell 0; have m1 := HM1.out.cell 1; have p0 := HP1.out.cell 0; have p1 := HP1.out.cell 1
      have hmlt := HM1.out.lt; have hp1lt := HP1.out.lt
      obtain ⟨d0, d1⟩ := HD.out _ HB1.out
      simp at m0 m1 p0 p1
      go_wp2_with fail
      have CS := Lib.hid (fun (d : Nat) (os : Array Obj) => Calls.regrown_of (w := w1) (d := d) (os := os) (by
        have hbr := HB1.out.trans ((below_regrown w1 d os).mono HB1.out.size)
        have := res_is (eqB_yes HSM.out) (asame_any A S c cs m P.here (Sort.grow (redrawn w1 d) os) F2 F (fun b hx => Nat.lt_of_lt_of_le (hF2 b hx) hbr.size) (fun b hx => Nat.lt_of_lt_of_le (hF b hx) hbr.size) (HMM.out.keep ENode.stays (Keep.below hbr hF2) (fun _ h => h)) (HROW.out.keep ENode.stays (Keep.below hbr hF) (fun _ h => h)) (by have := hzm.2.2; omega))
        exact this))
      have k0 := cell_regrown m0; have k1 := cell_regrown m1; have k2 := cell_regrown p0; have k3 := cell_regrown p1; have k4 := cell_regrown d0; have k5 := cell_regrown d1
      clear m0 m1 p0 p1 d0 d1
      refine wp_region_quiet_below (by kernel_rfl) (by kernel_rfl) ?_
      repeat (first | go_big_quiet_step (exact CS.out _ _) | quiet_step (exact CS.out _ _))
      refine wpQuiet_nil ?_
      intro _ hw'
      obtain ⟨⟨dq, osq⟩, hw''⟩ := hw'
      subst hw''
      clear k0 k1 k2 k3 k4 k5 CS
      obtain ⟨w2, hw2⟩ : ∃ x, Sort.grow (redrawn w1 dq) osq = x := ⟨_, rfl⟩
      have HX : Hid (Below w1.heap.size w1 w2) := Lib.hid (by rw [← hw2]; exact below_regrown w1 dq osq)
      rw [hw2]
      clear hw2
      have HB2 := Lib.hid (HB1.out.trans (HX.out.mono HB1.out.size))
      have HM2 := Lib.hid (HM1.out.below HX.out hmlt)
      have HP2 := Lib.hid (HP1.out.below HX.out hp1lt)
      clear HX HB1 HM1 HP1 hmlt hp1lt
      go_wp2
      go_ret
      exact ⟨rfl, (KeepO.refl _ _).below HB2.out, HPAST.out _ HB2.out⟩
    · by_cases h64 : P.ahead.length + 1 > 64
      · rw [pushP_new hE hsame, if_pos h64]
        obtain ⟨P2, hP2⟩ : ∃ x, (⟨(P.ahead ++ [P.here]).tail, m, []⟩ : APast) = x := ⟨_, rfl⟩
        rw [hP2]
        have HPX := Lib.hid hP2
        clear hP2
        have HCK : Hid (∀ w', Below w.heap.size w w' → Calls Try.prog 30 #[.agg #[.int .i64 m.next, .slice A m.nodes.length c]] w' fun e w2 => e = .returned (.int .i64 0) ∧ Below w'.heap.size w' w2) := Lib.hid (fun w' hb => by
          have := check_any A c m w' F2 (fun b hx => Nat.lt_of_lt_of_le (hF2 b hx) hb.size) (HMM.out.keep ENode.stays (Keep.below hb hF2) (fun _ h => h)) (fun x hx => (hzm.1 x hx).1) (by have := hzm.2.2; omega)
          rw [hE] at this
          exact this)
        clear hE
        go_enter Try.func16, Try.ntmps16
        go_upto_region 1 with fail
        obtain ⟨u0, hu0⟩ : ∃ u : World, w.alloc (.cells #[.int .i64 m.next, .slice A m.nodes.length c] 27) = u := ⟨_, rfl⟩
        have HB0 : Hid (Below w.heap.size w u0) := Lib.hid (by rw [← hu0]; exact (Below.refl w.heap.size w).alloc (Nat.le_refl _) _)
        have HM0 : Hid (Blk u0 w.heap.size 27 #[.int .i64 m.next, .slice A m.nodes.length c]) := Lib.hid (by rw [← hu0]; exact Blk.new _ _ _)
        have HP0 : Hid (Blk u0 p 69 #[.slice (some ⟨b, off, none⟩) P.list.length cp, .int .i64 P.ahead.length]) := Lib.hid (HPB.out.below HB0.out hplt)
        (try rw [hu0])
        clear hu0
        have m0 := HM0.out.cell 0; have m1 := HM0.out.cell 1
        have hmlt := HM0.out.lt
        simp at m0 m1
        go_wp2_with (go_at_call 41; refine (HN.out _ HP0.out).mono ?_; rintro _ _ ⟨rfl, rfl⟩)
        refine (HCK.out _ HB0.out).mono ?_
        rintro _ w1 ⟨rfl, hb⟩
        have HB1 := Lib.hid (HB0.out.trans (hb.mono HB0.out.size))
        have HM1 := Lib.hid (HM0.out.below hb hmlt)
        have HP1 := Lib.hid (HP0.out.below hb HP0.out.lt)
        clear hb HB0 HM0 HP0 m0 m1 hmlt HCK
        have m0 := HM1.out.cell 0; have m1 := HM1.out.cell 1; have p0 := HP1.out.cell 0; have p1 := HP1.out.cell 1
        have hmlt := HM1.out.lt; have hp1lt := HP1.out.lt
        obtain ⟨d0, d1⟩ := HD.out _ HB1.out
        simp at m0 m1 p0 p1
        go_wp2_with fail
        have CS := Lib.hid (fun (d : Nat) (os : Array Obj) => Calls.regrown_of (w := w1) (d := d) (os := os) (by
          have hbr := HB1.out.trans ((below_regrown w1 d os).mono HB1.out.size)
          have := res_is (eqB_no hsame) (asame_any A S c cs m P.here (Sort.grow (redrawn w1 d) os) F2 F (fun b hx => Nat.lt_of_lt_of_le (hF2 b hx) hbr.size) (fun b hx => Nat.lt_of_lt_of_le (hF b hx) hbr.size) (HMM.out.keep ENode.stays (Keep.below hbr hF2) (fun _ h => h)) (HROW.out.keep ENode.stays (Keep.below hbr hF) (fun _ h => h)) (by have := hzm.2.2; omega))
          exact this))
        have k0 := cell_regrown m0; have k1 := cell_regrown m1; have k2 := cell_regrown p0; have k3 := cell_regrown p1; have k4 := cell_regrown d0; have k5 := cell_regrown d1
        clear m0 m1 p0 p1 d0 d1
        refine wp_region_quiet_below (by kernel_rfl) (by kernel_rfl) ?_
        repeat (first | go_big_quiet_step (exact CS.out _ _) | quiet_step (exact CS.out _ _))
        refine wpQuiet_nil ?_
        intro _ hw'
        obtain ⟨⟨dq, osq⟩, hw''⟩ := hw'
        subst hw''
        clear k0 k1 k2 k3 k4 k5 CS
        obtain ⟨w2, hw2⟩ : ∃ x, Sort.grow (redrawn w1 dq) osq = x := ⟨_, rfl⟩
        have HX : Hid (Below w1.heap.size w1 w2) := Lib.hid (by rw [← hw2]; exact below_regrown w1 dq osq)
        rw [hw2]
        clear hw2
        have HB2 := Lib.hid (HB1.out.trans (HX.out.mono HB1.out.size))
        have HM2 := Lib.hid (HM1.out.below HX.out hmlt)
        have HP2 := Lib.hid (HP1.out.below HX.out hp1lt)
        clear HX HB1 HM1 HP1 hmlt hp1lt
        have m0 := HM2.out.cell 0; have m1 := HM2.out.cell 1; have p0 := HP2.out.cell 0; have p1 := HP2.out.cell 1
        have hmlt := HM2.out.lt
        simp at m0 m1 p0 p1
        go_wp2_with fail
        clear m0 m1 p0 p1
        have HSS : Hid (∀ w', Blk w' p 69 #[.slice (some ⟨b, off, none⟩) P.list.length cp, .int .i64 P.ahead.length] → Blk w' w.heap.size 27 #[.int .i64 m.next, .slice A m.nodes.length c] → (fun w' : World => w'.cell? ⟨p, 0, none⟩ = some (.slice (some ⟨b, off, none⟩) P.list.length cp) ∧ w'.cell? ⟨p, 1, none⟩ = some (.int .i64 P.ahead.length) ∧ w'.cell? ⟨w.heap.size, 0, none⟩ = some (.int .i64 m.next) ∧ w'.cell? ⟨w.heap.size, 1, none⟩ = some (.slice A m.nodes.length c)) w') := Lib.hid (fun w' h1 h2 => by
          have m0 := h2.cell 0; have m1 := h2.cell 1; have p0 := h1.cell 0; have p1 := h1.cell 1
          simp at m0 m1 p0 p1
          exact ⟨p0, p1, m0, m1⟩)
        obtain ⟨u, hu⟩ : ∃ u : World, w2.drew = u := ⟨_, rfl⟩
        have HU : Hid (Below w2.heap.size w2 u) := Lib.hid (by rw [← hu]; exact (Below.refl _ _).drew)
        have HBU := Lib.hid (HB2.out.trans (HU.out.mono HB2.out.size))
        have HMU := Lib.hid (HM2.out.below HU.out hmlt)
        have HPU := Lib.hid (HP2.out.below HU.out HP2.out.lt)
        refine wp_region_Y (S := (fun w' : World => w'.cell? ⟨p, 0, none⟩ = some (.slice (some ⟨b, off, none⟩) P.list.length cp) ∧ w'.cell? ⟨p, 1, none⟩ = some (.int .i64 P.ahead.length) ∧ w'.cell? ⟨w.heap.size, 0, none⟩ = some (.int .i64 m.next) ∧ w'.cell? ⟨w.heap.size, 1, none⟩ = some (.slice A m.nodes.length c))) 19 (by kernel_rfl) (by rw [hu]; exact HSS.out _ HPU.out HMU.out) (fun hHeld => ?_)
        rw [hu] at hHeld ⊢
        clear hu HU HB2 HM2 HP2 hmlt
        refine wpAnyY_take (i := 0) (v := ?_) rfl (by kernel_rfl) (by kernel_rfl) (by kernel_rfl) (by kernel_rfl) (fun _ _ _ h => h) (Or.inl ⟨by rfl, ?_⟩) (by assumption) ?_
        rotate_left 1
        · (intro w' hSw; obtain ⟨s0, s1, s2, s3⟩ := hSw; go_simp); try with_reducible rfl
        try simp only [Act.put, List.setIfInBounds_toArray, List.set_cons_zero, List.set_cons_succ, Nat.zero_add]
        refine wpAnyY_take (i := 1) (v := ?_) rfl (by kernel_rfl) (by kernel_rfl) (by kernel_rfl) (by kernel_rfl) (fun _ _ _ h => h) (Or.inl ⟨by rfl, ?_⟩) (by assumption) ?_
        rotate_left 1
        · (intro w' hSw; obtain ⟨s0, s1, s2, s3⟩ := hSw; go_simp); try with_reducible rfl
        try simp only [Act.put, List.setIfInBounds_toArray, List.set_cons_zero, List.set_cons_succ, Nat.zero_add]
        refine wpAnyY_take (i := 2) (v := ?_) rfl (by kernel_rfl) (by kernel_rfl) (by kernel_rfl) (by kernel_rfl) (fun _ _ _ h => h) (Or.inl ⟨by rfl, ?_⟩) (by assumption) ?_
        rotate_left 1
        · (intro w' hSw; obtain ⟨s0, s1, s2, s3⟩ := hSw; go_simp); try with_reducible rfl
        try simp only [Act.put, List.setIfInBounds_toArray, List.set_cons_zero, List.set_cons_succ, Nat.zero_add]
        refine wpAnyY_take (i := 3) (v := ?_) rfl (by kernel_rfl) (by kernel_rfl) (by kernel_rfl) (by kernel_rfl) (fun _ _ _ h => h) (Or.inl ⟨by rfl, ?_⟩) (by assumption) ?_
        rotate_left 1
        · (intro w' hSw; obtain ⟨s0, s1, s2, s3⟩ := hSw; go_simp); try with_reducible rfl
        try simp only [Act.put, List.setIfInBounds_toArray, List.set_cons_zero, List.set_cons_succ, Nat.zero_add]
        refine wpAnyY_take (i := 4) (v := ?_) rfl (by kernel_rfl) (by kernel_rfl) (by kernel_rfl) (by kernel_rfl) (fun _ _ _ h => h) (Or.inl ⟨by rfl, ?_⟩) (by assumption) ?_
        rotate_left 1
        · (intro w' hSw; obtain ⟨s0, s1, s2, s3⟩ := hSw; go_simp); try with_reducible rfl
        try simp only [Act.put, List.setIfInBounds_toArray, List.set_cons_zero, List.set_cons_succ, Nat.zero_add]
        refine wpAnyY_take (i := 5) (v := ?_) rfl (by kernel_rfl) (by kernel_rfl) (by kernel_rfl) (by kernel_rfl) (fun _ _ _ h => h) (Or.inl ⟨by rfl, ?_⟩) (by assumption) ?_
        rotate_left 1
        · (intro w' hSw; obtain ⟨s0, s1, s2, s3⟩ := hSw; go_simp); try with_reducible rfl
        try simp only [Act.put, List.setIfInBounds_toArray, List.set_cons_zero, List.set_cons_succ, Nat.zero_add]
        refine wpAnyY_take (i := 6) (v := ?_) rfl (by kernel_rfl) (by kernel_rfl) (by kernel_rfl) (by kernel_rfl) (fun _ _ _ h => h) (Or.inl ⟨by rfl, ?_⟩) (by assumption) ?_
        rotate_left 1
        · (intro w' hSw; obtain ⟨s0, s1, s2, s3⟩ := hSw; go_simp); try with_reducible rfl
        try simp only [Act.put, List.setIfInBounds_toArray, List.set_cons_zero, List.set_cons_succ, Nat.zero_add]
        refine wpAnyY_take (i := 7) (v := ?_) rfl (by kernel_rfl) (by kernel_rfl) (by kernel_rfl) (by kernel_rfl) (fun _ _ _ h => h) (Or.inl ⟨by rfl, ?_⟩) (by assumption) ?_
        rotate_left 1
        · (intro w' hSw; obtain ⟨s0, s1, s2, s3⟩ := hSw; go_simp); try with_reducible rfl
        try simp only [Act.put, List.setIfInBounds_toArray, List.set_cons_zero, List.set_cons_succ, Nat.zero_add]
        refine wpAnyY_take (i := 8) (v := ?_) rfl (by kernel_rfl) (by kernel_rfl) (by kernel_rfl) (by kernel_rfl) (fun _ _ _ h => h) (Or.inl ⟨by rfl, ?_⟩) (by assumption) ?_
        rotate_left 1
        · (intro w' hSw; obtain ⟨s0, s1, s2, s3⟩ := hSw; go_simp); try with_reducible rfl
        try simp only [Act.put, List.setIfInBounds_toArray, List.set_cons_zero, List.set_cons_succ, Nat.zero_add]
        refine wpAnyY_take (i := 9) (v := ?_) rfl (by kernel_rfl) (by kernel_rfl) (by kernel_rfl) (by kernel_rfl) (fun _ _ _ h => h) (Or.inl ⟨by rfl, ?_⟩) (by assumption) ?_
        rotate_left 1
        · (intro w' hSw; obtain ⟨s0, s1, s2, s3⟩ := hSw; go_simp); try with_reducible rfl
        try simp only [Act.put, List.setIfInBounds_toArray, List.set_cons_zero, List.set_cons_succ, Nat.zero_add]
        refine wpAnyY_take (i := 10) (v := ?_) rfl (by kernel_rfl) (by kernel_rfl) (by kernel_rfl) (by kernel_rfl) (fun _ _ _ h => h) (Or.inl ⟨by rfl, ?_⟩) (by assumption) ?_
        rotate_left 1
        · (intro w' hSw; obtain ⟨s0, s1, s2, s3⟩ := hSw; go_simp); try with_reducible rfl
        try simp only [Act.put, List.setIfInBounds_toArray, List.set_cons_zero, List.set_cons_succ, Nat.zero_add]
        refine wpAnyY_take (i := 11) (v := ?_) rfl (by kernel_rfl) (by kernel_rfl) (by kernel_rfl) (by kernel_rfl) (fun _ _ _ h => h) (Or.inl ⟨by rfl, ?_⟩) (by assumption) ?_
        rotate_left 1
        · (intro w' hSw; obtain ⟨s0, s1, s2, s3⟩ := hSw; go_simp); try with_reducible rfl
        try simp only [Act.put, List.setIfInBounds_toArray, List.set_cons_zero, List.set_cons_succ, Nat.zero_add]
        refine wpAnyY_take (i := 12) (v := ?_) rfl (by kernel_rfl) (by kernel_rfl) (by kernel_rfl) (by kernel_rfl) (fun _ _ _ h => h) (Or.inl ⟨by rfl, ?_⟩) (by assumption) ?_
        rotate_left 1
        · (intro w' hSw; obtain ⟨s0, s1, s2, s3⟩ := hSw; go_simp); try with_reducible rfl
        try simp only [Act.put, List.setIfInBounds_toArray, List.set_cons_zero, List.set_cons_succ, Nat.zero_add]
        refine wpAnyY_take (i := 13) (v := ?_) rfl (by kernel_rfl) (by kernel_rfl) (by kernel_rfl) (by kernel_rfl) (fun _ _ _ h => h) (Or.inl ⟨by rfl, ?_⟩) (by assumption) ?_
        rotate_left 1
        · (intro w' hSw; obtain ⟨s0, s1, s2, s3⟩ := hSw; go_simp); try with_reducible rfl
        try simp only [Act.put, List.setIfInBounds_toArray, List.set_cons_zero, List.set_cons_succ, Nat.zero_add]
        refine wpAnyY_take (i := 14) (v := ?_) rfl (by kernel_rfl) (by kernel_rfl) (by kernel_rfl) (by kernel_rfl) (fun _ _ _ h => h) (Or.inl ⟨by rfl, ?_⟩) (by assumption) ?_
        rotate_left 1
        · (intro w' hSw; obtain ⟨s0, s1, s2, s3⟩ := hSw; go_simp); try with_reducible rfl
        try simp only [Act.put, List.setIfInBounds_toArray, List.set_cons_zero, List.set_cons_succ, Nat.zero_add]
        refine wpAnyY_take (i := 15) (v := ?_) rfl (by kernel_rfl) (by kernel_rfl) (by kernel_rfl) (by kernel_rfl) (fun _ _ _ h => h) (Or.inl ⟨by rfl, ?_⟩) (by assumption) ?_
        rotate_left 1
        · (intro w' hSw; obtain ⟨s0, s1, s2, s3⟩ := hSw; go_simp); try with_reducible rfl
        try simp only [Act.put, List.setIfInBounds_toArray, List.set_cons_zero, List.set_cons_succ, Nat.zero_add]
        refine wpAnyY_one (i := 16) rfl (by kernel_rfl) (fun K hK => ?_)
        go_simp
        refine (htwin_any A c m u F2 (fun b hx => Nat.lt_of_lt_of_le (hF2 b hx) HBU.out.size) (HMM.out.keep ENode.stays (Keep.below HBU.out hF2) (fun _ h => h)) (fun x hx => (hzm.1 x hx).2.1) hzm.2.2).mono ?_
        rintro _ w3 ⟨v, rfl, l, hown, hmap, hb3⟩
        have HO3 := Lib.hid hown; have HMAP := Lib.hid hmap
        have HB3 := Lib.hid (HBU.out.trans (hb3.mono HBU.out.size))
        have HM3 := Lib.hid (HMU.out.below hb3 HMU.out.lt)
        have HP3 := Lib.hid (HPU.out.below hb3 HPU.out.lt)
        obtain ⟨Av, cv, rfl⟩ : ∃ A c, v = .slice A m.nodes.length c := by
          obtain ⟨A', c', e⟩ := own_shape hown.row
          exact ⟨A', c', by rw [e, ← hmap, List.length_map]⟩
        have HUW : Hid (w.heap.size ≤ u.heap.size) := Lib.hid HBU.out.size
        clear hown hmap hb3
        go_simp
        refine hK.out _ _ (fun _ => HSS.out _ HP3.out HM3.out) ?_
        have hHeld3 := HSS.out _ HP3.out HM3.out
        clear hK K
        try simp only [Act.put, List.setIfInBounds_toArray, List.set_cons_zero, List.set_cons_succ, Nat.zero_add]
        refine wpAnyY_one (i := 17) rfl (by kernel_rfl) (fun K hK => ?_)
        go_simp
        obtain ⟨q, hq⟩ : ∃ q, w3.heap.size = q := ⟨_, rfl⟩
        obtain ⟨w4, hw4⟩ : ∃ x : World, w3.alloc (.cells #[.int .i64 m.next, .slice Av m.nodes.length cv] 27) = x := ⟨_, rfl⟩
        have HX : Hid (Below w3.heap.size w3 w4) := Lib.hid (by rw [← hw4]; exact (Below.refl _ _).alloc (Nat.le_refl _) _)
        have HQ4 : Hid (Blk w4 q 27 #[.int .i64 m.next, .slice Av m.nodes.length cv]) := Lib.hid (by rw [← hw4]; exact Blk.new' hq.symm)
        have HB4 := Lib.hid (HB3.out.trans (HX.out.mono HB3.out.size))
        have HM4 := Lib.hid (HM3.out.below HX.out HM3.out.lt)
        have HP4 := Lib.hid (HP3.out.below HX.out HP3.out.lt)
        have HO4 := Lib.hid (HO3.out.below HX.out)
        have hql4 : w3.heap.size < w4.heap.size := by rw [← hw4]; simp
        (try rw [hw4])
        (try rw [hq])
        clear hw4 HX
        refine hK.out _ _ (fun _ => HSS.out _ HP4.out HM4.out) ?_
        have hHeld4 := HSS.out _ HP4.out HM4.out
        clear hK K
        try simp only [Act.put, List.setIfInBounds_toArray, List.set_cons_zero, List.set_cons_succ, Nat.zero_add]
        refine wpAnyY_one (i := 18) rfl (by kernel_rfl) (fun K hK => ?_)
        have HRT : Hid (RowOf 2 EModel w4 (fun b => F b ∨ (w.heap.size ≤ b ∧ b < w4.heap.size)) (some ⟨b, off, none⟩) (P.ahead ++ [P.here])) := Lib.hid (by
          have := (HR.out.keep EModel.stays (Keep.below HB4.out hF) (F' := fun b => F b ∨ (w.heap.size ≤ b ∧ b < w4.heap.size)) (fun _ h => .inl h)).take (P.ahead.length + 1)
          rw [take_now] at this
          exact this)
        obtain ⟨css, c1, c2, c4, c5⟩ := HRT.out.css
        have hlen1 : (P.ahead ++ [P.here]).length = P.ahead.length + 1 := by simp
        have HOM : Hid (IsRow 7 ENode w4 (fun b => F b ∨ (w.heap.size ≤ b ∧ b < w4.heap.size)) (.slice Av m.nodes.length cv) m.nodes) := Lib.hid (by
          have := HO4.out.isRow (F := fun b => F b ∨ (w.heap.size ≤ b ∧ b < w4.heap.size)) (fun b h1 h2 => .inr ⟨by have := HUW.out; omega, h2⟩)
          rw [HMAP.out] at this
          exact this)
        refine step_grows (P := Try.prog) (E := EModel) (F := fun b => F b ∨ (w.heap.size ≤ b ∧ b < w4.heap.size)) (l := P.ahead ++ [P.here]) EModel.stays w4 (by rfl) (.tmp 40) (.tmp 43) 22 (by rfl) 27 Try.underlying22 model_info rfl (by omega) ⟨b, off, none⟩ (P.ahead.length + 1) (by rw [hlen1]; rfl) css c1 c2 c4 (c5 _ rfl) ⟨q, 0, none⟩ 1 [m] [[.int .i64 m.next, .slice Av m.nodes.length cv]] (by rfl) rfl (fun cs hcs => by simp at hcs; subst hcs; rfl) (fun i hi hi' => by
            have hi0 : i = 0 := by simp at hi; omega
            subst hi0
            exact ⟨_, rfl, HOM.out⟩) (by
            have := news_cells HQ4.out
            simpa using this) (fun b hx => hx.elim (fun h => by have := hF b h; have := HB4.out.size; omega) (fun h => h.2)) (by rw [hlen1]; simp) (by rw [hlen1]; unfold maxLen; simp; omega) (by rw [hlen1]; simp; omega) ?_
        intro A5 c5' w5 hown5 hb5
        rw [show (P.ahead ++ [P.here]).length + [m].length = P.ahead.length + 2 by simp] at hown5 ⊢
        have HROW5 := Lib.hid hown5
        have HB5 := Lib.hid (HB4.out.trans (hb5.mono HB4.out.size))
        have HM5 := Lib.hid (HM4.out.below hb5 HM4.out.lt)
        have HP5 := Lib.hid (HP4.out.below hb5 HP4.out.lt)
        have HW4 : Hid (w.heap.size ≤ w4.heap.size ∧ w4.heap.size ≤ w5.heap.size) := Lib.hid ⟨HB4.out.size, hb5.size⟩
        clear hown5 hb5 c1 c2 c4 c5
        refine hK.out _ _ (fun _ => HSS.out _ HP5.out HM5.out) ?_
        have hHeld5 := HSS.out _ HP5.out HM5.out
        clear hK K
        try simp only [Act.put, List.setIfInBounds_toArray, List.set_cons_zero, List.set_cons_succ, Nat.zero_add]
        refine wpAnyY_one0 (i := 19) rfl (by kernel_rfl) (by kernel_rfl) (fun K hK => ?_)
        go_simp
        refine hK.out _ _ ?_
        clear hK K
        try simp only [Act.put, List.setIfInBounds_toArray, List.set_cons_zero, List.set_cons_succ, Nat.zero_add]
        refine wpAnyY_done (by kernel_rfl) ?_ _
        clear hHeld hHeld3 hHeld4 hHeld5
        have hl5 : (P.ahead ++ [P.here] ++ [m]).length = P.ahead.length + 2 := by simp
        obtain ⟨xs, hown⟩ := HROW5.out.owns
        rw [hl5] at hown
        obtain ⟨g, rfl, hcap1, hcap2, hg1, hg2⟩ := own_pos hown (by omega)
        have HIS : Hid (IsRow 2 EModel w5 (fun b => F b ∨ (w.heap.size ≤ b ∧ b < w5.heap.size)) (.slice (some ⟨g, 0, none⟩) (P.ahead.length + 2) c5') (P.ahead ++ [P.here] ++ [m])) := Lib.hid (HROW5.out.isRow EModel.stays (fun b h1 h2 => h1.elim .inl (fun h => .inr ⟨h.1, h2⟩)) (fun b h1 h2 => .inr ⟨by have := HW4.out; omega, h2⟩))
        have HCP := Lib.hid (And.intro hcap1 hcap2)
        have HL5 := Lib.hid hl5
        clear hown hg1 hg2 hl5 hcap2
        have p0 := HP5.out.cell 0; have p1 := HP5.out.cell 1
        have z0 := HP5.out.frozen 0; have z1 := HP5.out.frozen 1
        have hp5lt := HP5.out.lt
        simp at p0 p1
        have g1 : (1 : Int) ≤ (P.ahead.length : Int) + 2 := by omega
        have g2 : (P.ahead.length : Int) + 2 ≤ c5' := by omega
        have HFAR : Hid (∀ (x y : Value) (q : Nat), q ≠ p → ((w5.setCell ⟨p, 0, none⟩ x).setCell ⟨p, 1, none⟩ y).heap[q]? = w5.heap[q]?) := Lib.hid (fun x y q hq => (Below.heap_setCell _ _ _ _ hq).trans (Below.heap_setCell _ _ _ _ hq))
        have HKP : Hid (∀ (x y : Value), KeepO (· = p) w ((w5.setCell ⟨p, 0, none⟩ x).setCell ⟨p, 1, none⟩ y)) := Lib.hid (fun x y => (((KeepO.refl (fun b => b = p) w).below HB5.out).set_ rfl _ _).set_ rfl _ _)
        have h65 : decide ((P.ahead.length : Int) + 2 > 65) = true := decide_eq_true (by omega)
        go_wp2
        go_ret
        rw [← HPX.out]
        have e1 : (⟨(P.ahead ++ [P.here]).tail, m, []⟩ : APast).list.length = P.ahead.length + 1 := by simp [APast.list]
        have e2 : ((P.ahead ++ [P.here]).tail).length = P.ahead.length := by simp
        have e3 : (⟨(P.ahead ++ [P.here]).tail, m, []⟩ : APast).list = (P.ahead ++ [P.here] ++ [m]).tail := by
          show (P.ahead ++ [P.here]).tail ++ [m] = _
          exact (List.tail_append_of_ne_nil (by simp)).symm
        refine ⟨rfl, HKP.out _ _, ⟨some ⟨g, 2, none⟩, c5' - 1, ?_, by rw [e1]; have := HCP.out; omega, by have := HCP.out; omega, ?_⟩⟩
        · rw [e1]
          show Blk _ p _ #[.slice (some ⟨g, 2, none⟩) (P.ahead.length + 1) (c5' - 1), .int .i64 ((P.ahead ++ [P.here]).tail.length : Nat)]
          rw [e2]
          simpa using (HP5.out.set_ 0 (.slice (some ⟨g, 2, none⟩) (P.ahead.length + 1) (c5' - 1))).set_ 1 (.int .i64 P.ahead.length)
        · rw [e3]
          have h2 := HIS.out.row.tl
          refine h2.keep EModel.stays (fun q hq => World.cell?_of_block (HFAR.out _ _ _ ?_)) (fun b hb => hb.elim .inl fun h => .inr ⟨h.1, by simpa using h.2⟩)
          rcases hq with hq | hq
          · exact fun e => hpF (e ▸ hq)
          · have := hq.1; omega
      · rw [pushP_new hE hsame, if_neg h64]
        obtain ⟨P2, hP2⟩ : ∃ x, (⟨P.ahead ++ [P.here], m, []⟩ : APast) = x := ⟨_, rfl⟩
        rw [hP2]
        have HPX := Lib.hid hP2
        clear hP2
        have HCK : Hid (∀ w', Below w.heap.size w w' → Calls Try.prog 30 #[.agg #[.int .i64 m.next, .slice A m.nodes.length c]] w' fun e w2 => e = .returned (.int .i64 0) ∧ Below w'.heap.size w' w2) := Lib.hid (fun w' hb => by
          have := check_any A c m w' F2 (fun b hx => Nat.lt_of_lt_of_le (hF2 b hx) hb.size) (HMM.out.keep ENode.stays (Keep.below hb hF2) (fun _ h => h)) (fun x hx => (hzm.1 x hx).1) (by have := hzm.2.2; omega)
          rw [hE] at this
          exact this)
        clear hE
        go_enter Try.func16, Try.ntmps16
        go_upto_region 1 with fail
        obtain ⟨u0, hu0⟩ : ∃ u : World, w.alloc (.cells #[.int .i64 m.next, .slice A m.nodes.length c] 27) = u := ⟨_, rfl⟩
        have HB0 : Hid (Below w.heap.size w u0) := Lib.hid (by rw [← hu0]; exact (Below.refl w.heap.size w).alloc (Nat.le_refl _) _)
        have HM0 : Hid (Blk u0 w.heap.size 27 #[.int .i64 m.next, .slice A m.nodes.length c]) := Lib.hid (by rw [← hu0]; exact Blk.new _ _ _)
        have HP0 : Hid (Blk u0 p 69 #[.slice (some ⟨b, off, none⟩) P.list.length cp, .int .i64 P.ahead.length]) := Lib.hid (HPB.out.below HB0.out hplt)
        (try rw [hu0])
        clear hu0
        have m0 := HM0.out.cell 0; have m1 := HM0.out.cell 1
        have hmlt := HM0.out.lt
        simp at m0 m1
        go_wp2_with (go_at_call 41; refine (HN.out _ HP0.out).mono ?_; rintro _ _ ⟨rfl, rfl⟩)
        refine (HCK.out _ HB0.out).mono ?_
        rintro _ w1 ⟨rfl, hb⟩
        have HB1 := Lib.hid (HB0.out.trans (hb.mono HB0.out.size))
        have HM1 := Lib.hid (HM0.out.below hb hmlt)
        have HP1 := Lib.hid (HP0.out.below hb HP0.out.lt)
        clear hb HB0 HM0 HP0 m0 m1 hmlt HCK
        have m0 := HM1.out.cell 0; have m1 := HM1.out.cell 1; have p0 := HP1.out.cell 0; have p1 := HP1.out.cell 1
        have hmlt := HM1.out.lt; have hp1lt := HP1.out.lt
        obtain ⟨d0, d1⟩ := HD.out _ HB1.out
        simp at m0 m1 p0 p1
        go_wp2_with fail
        have CS := Lib.hid (fun (d : Nat) (os : Array Obj) => Calls.regrown_of (w := w1) (d := d) (os := os) (by
          have hbr := HB1.out.trans ((below_regrown w1 d os).mono HB1.out.size)
          have := res_is (eqB_no hsame) (asame_any A S c cs m P.here (Sort.grow (redrawn w1 d) os) F2 F (fun b hx => Nat.lt_of_lt_of_le (hF2 b hx) hbr.size) (fun b hx => Nat.lt_of_lt_of_le (hF b hx) hbr.size) (HMM.out.keep ENode.stays (Keep.below hbr hF2) (fun _ h => h)) (HROW.out.keep ENode.stays (Keep.below hbr hF) (fun _ h => h)) (by have := hzm.2.2; omega))
          exact this))
        have k0 := cell_regrown m0; have k1 := cell_regrown m1; have k2 := cell_regrown p0; have k3 := cell_regrown p1; have k4 := cell_regrown d0; have k5 := cell_regrown d1
        clear m0 m1 p0 p1 d0 d1
        refine wp_region_quiet_below (by kernel_rfl) (by kernel_rfl) ?_
        repeat (first | go_big_quiet_step (exact CS.out _ _) | quiet_step (exact CS.out _ _))
        refine wpQuiet_nil ?_
        intro _ hw'
        obtain ⟨⟨dq, osq⟩, hw''⟩ := hw'
        subst hw''
        clear k0 k1 k2 k3 k4 k5 CS
        obtain ⟨w2, hw2⟩ : ∃ x, Sort.grow (redrawn w1 dq) osq = x := ⟨_, rfl⟩
        have HX : Hid (Below w1.heap.size w1 w2) := Lib.hid (by rw [← hw2]; exact below_regrown w1 dq osq)
        rw [hw2]
        clear hw2
        have HB2 := Lib.hid (HB1.out.trans (HX.out.mono HB1.out.size))
        have HM2 := Lib.hid (HM1.out.below HX.out hmlt)
        have HP2 := Lib.hid (HP1.out.below HX.out hp1lt)
        clear HX HB1 HM1 HP1 hmlt hp1lt
        have m0 := HM2.out.cell 0; have m1 := HM2.out.cell 1; have p0 := HP2.out.cell 0; have p1 := HP2.out.cell 1
        have hmlt := HM2.out.lt
        simp at m0 m1 p0 p1
        go_wp2_with fail
        clear m0 m1 p0 p1
        have HSS : Hid (∀ w', Blk w' p 69 #[.slice (some ⟨b, off, none⟩) P.list.length cp, .int .i64 P.ahead.length] → Blk w' w.heap.size 27 #[.int .i64 m.next, .slice A m.nodes.length c] → (fun w' : World => w'.cell? ⟨p, 0, none⟩ = some (.slice (some ⟨b, off, none⟩) P.list.length cp) ∧ w'.cell? ⟨p, 1, none⟩ = some (.int .i64 P.ahead.length) ∧ w'.cell? ⟨w.heap.size, 0, none⟩ = some (.int .i64 m.next) ∧ w'.cell? ⟨w.heap.size, 1, none⟩ = some (.slice A m.nodes.length c)) w') := Lib.hid (fun w' h1 h2 => by
          have m0 := h2.cell 0; have m1 := h2.cell 1; have p0 := h1.cell 0; have p1 := h1.cell 1
          simp at m0 m1 p0 p1
          exact ⟨p0, p1, m0, m1⟩)
        obtain ⟨u, hu⟩ : ∃ u : World, w2.drew = u := ⟨_, rfl⟩
        have HU : Hid (Below w2.heap.size w2 u) := Lib.hid (by rw [← hu]; exact (Below.refl _ _).drew)
        have HBU := Lib.hid (HB2.out.trans (HU.out.mono HB2.out.size))
        have HMU := Lib.hid (HM2.out.below HU.out hmlt)
        have HPU := Lib.hid (HP2.out.below HU.out HP2.out.lt)
        refine wp_region_Y (S := (fun w' : World => w'.cell? ⟨p, 0, none⟩ = some (.slice (some ⟨b, off, none⟩) P.list.length cp) ∧ w'.cell? ⟨p, 1, none⟩ = some (.int .i64 P.ahead.length) ∧ w'.cell? ⟨w.heap.size, 0, none⟩ = some (.int .i64 m.next) ∧ w'.cell? ⟨w.heap.size, 1, none⟩ = some (.slice A m.nodes.length c))) 19 (by kernel_rfl) (by rw [hu]; exact HSS.out _ HPU.out HMU.out) (fun hHeld => ?_)
        rw [hu] at hHeld ⊢
        clear hu HU HB2 HM2 HP2 hmlt
        refine wpAnyY_take (i := 0) (v := ?_) rfl (by kernel_rfl) (by kernel_rfl) (by kernel_rfl) (by kernel_rfl) (fun _ _ _ h => h) (Or.inl ⟨by rfl, ?_⟩) (by assumption) ?_
        rotate_left 1
        · (intro w' hSw; obtain ⟨s0, s1, s2, s3⟩ := hSw; go_simp); try with_reducible rfl
        try simp only [Act.put, List.setIfInBounds_toArray, List.set_cons_zero, List.set_cons_succ, Nat.zero_add]
        refine wpAnyY_take (i := 1) (v := ?_) rfl (by kernel_rfl) (by kernel_rfl) (by kernel_rfl) (by kernel_rfl) (fun _ _ _ h => h) (Or.inl ⟨by rfl, ?_⟩) (by assumption) ?_
        rotate_left 1
        · (intro w' hSw; obtain ⟨s0, s1, s2, s3⟩ := hSw; go_simp); try with_reducible rfl
        try simp only [Act.put, List.setIfInBounds_toArray, List.set_cons_zero, List.set_cons_succ, Nat.zero_add]
        refine wpAnyY_take (i := 2) (v := ?_) rfl (by kernel_rfl) (by kernel_rfl) (by kernel_rfl) (by kernel_rfl) (fun _ _ _ h => h) (Or.inl ⟨by rfl, ?_⟩) (by assumption) ?_
        rotate_left 1
        · (intro w' hSw; obtain ⟨s0, s1, s2, s3⟩ := hSw; go_simp); try with_reducible rfl
        try simp only [Act.put, List.setIfInBounds_toArray, List.set_cons_zero, List.set_cons_succ, Nat.zero_add]
        refine wpAnyY_take (i := 3) (v := ?_) rfl (by kernel_rfl) (by kernel_rfl) (by kernel_rfl) (by kernel_rfl) (fun _ _ _ h => h) (Or.inl ⟨by rfl, ?_⟩) (by assumption) ?_
        rotate_left 1
        · (intro w' hSw; obtain ⟨s0, s1, s2, s3⟩ := hSw; go_simp); try with_reducible rfl
        try simp only [Act.put, List.setIfInBounds_toArray, List.set_cons_zero, List.set_cons_succ, Nat.zero_add]
        refine wpAnyY_take (i := 4) (v := ?_) rfl (by kernel_rfl) (by kernel_rfl) (by kernel_rfl) (by kernel_rfl) (fun _ _ _ h => h) (Or.inl ⟨by rfl, ?_⟩) (by assumption) ?_
        rotate_left 1
        · (intro w' hSw; obtain ⟨s0, s1, s2, s3⟩ := hSw; go_simp); try with_reducible rfl
        try simp only [Act.put, List.setIfInBounds_toArray, List.set_cons_zero, List.set_cons_succ, Nat.zero_add]
        refine wpAnyY_take (i := 5) (v := ?_) rfl (by kernel_rfl) (by kernel_rfl) (by kernel_rfl) (by kernel_rfl) (fun _ _ _ h => h) (Or.inl ⟨by rfl, ?_⟩) (by assumption) ?_
        rotate_left 1
        · (intro w' hSw; obtain ⟨s0, s1, s2, s3⟩ := hSw; go_simp); try with_reducible rfl
        try simp only [Act.put, List.setIfInBounds_toArray, List.set_cons_zero, List.set_cons_succ, Nat.zero_add]
        refine wpAnyY_take (i := 6) (v := ?_) rfl (by kernel_rfl) (by kernel_rfl) (by kernel_rfl) (by kernel_rfl) (fun _ _ _ h => h) (Or.inl ⟨by rfl, ?_⟩) (by assumption) ?_
        rotate_left 1
        · (intro w' hSw; obtain ⟨s0, s1, s2, s3⟩ := hSw; go_simp); try with_reducible rfl
        try simp only [Act.put, List.setIfInBounds_toArray, List.set_cons_zero, List.set_cons_succ, Nat.zero_add]
        refine wpAnyY_take (i := 7) (v := ?_) rfl (by kernel_rfl) (by kernel_rfl) (by kernel_rfl) (by kernel_rfl) (fun _ _ _ h => h) (Or.inl ⟨by rfl, ?_⟩) (by assumption) ?_
        rotate_left 1
        · (intro w' hSw; obtain ⟨s0, s1, s2, s3⟩ := hSw; go_simp); try with_reducible rfl
        try simp only [Act.put, List.setIfInBounds_toArray, List.set_cons_zero, List.set_cons_succ, Nat.zero_add]
        refine wpAnyY_take (i := 8) (v := ?_) rfl (by kernel_rfl) (by kernel_rfl) (by kernel_rfl) (by kernel_rfl) (fun _ _ _ h => h) (Or.inl ⟨by rfl, ?_⟩) (by assumption) ?_
        rotate_left 1
        · (intro w' hSw; obtain ⟨s0, s1, s2, s3⟩ := hSw; go_simp); try with_reducible rfl
        try simp only [Act.put, List.setIfInBounds_toArray, List.set_cons_zero, List.set_cons_succ, Nat.zero_add]
        refine wpAnyY_take (i := 9) (v := ?_) rfl (by kernel_rfl) (by kernel_rfl) (by kernel_rfl) (by kernel_rfl) (fun _ _ _ h => h) (Or.inl ⟨by rfl, ?_⟩) (by assumption) ?_
        rotate_left 1
        · (intro w' hSw; obtain ⟨s0, s1, s2, s3⟩ := hSw; go_simp); try with_reducible rfl
        try simp only [Act.put, List.setIfInBounds_toArray, List.set_cons_zero, List.set_cons_succ, Nat.zero_add]
        refine wpAnyY_take (i := 10) (v := ?_) rfl (by kernel_rfl) (by kernel_rfl) (by kernel_rfl) (by kernel_rfl) (fun _ _ _ h => h) (Or.inl ⟨by rfl, ?_⟩) (by assumption) ?_
        rotate_left 1
        · (intro w' hSw; obtain ⟨s0, s1, s2, s3⟩ := hSw; go_simp); try with_reducible rfl
        try simp only [Act.put, List.setIfInBounds_toArray, List.set_cons_zero, List.set_cons_succ, Nat.zero_add]
        refine wpAnyY_take (i := 11) (v := ?_) rfl (by kernel_rfl) (by kernel_rfl) (by kernel_rfl) (by kernel_rfl) (fun _ _ _ h => h) (Or.inl ⟨by rfl, ?_⟩) (by assumption) ?_
        rotate_left 1
        · (intro w' hSw; obtain ⟨s0, s1, s2, s3⟩ := hSw; go_simp); try with_reducible rfl
        try simp only [Act.put, List.setIfInBounds_toArray, List.set_cons_zero, List.set_cons_succ, Nat.zero_add]
        refine wpAnyY_take (i := 12) (v := ?_) rfl (by kernel_rfl) (by kernel_rfl) (by kernel_rfl) (by kernel_rfl) (fun _ _ _ h => h) (Or.inl ⟨by rfl, ?_⟩) (by assumption) ?_
        rotate_left 1
        · (intro w' hSw; obtain ⟨s0, s1, s2, s3⟩ := hSw; go_simp); try with_reducible rfl
        try simp only [Act.put, List.setIfInBounds_toArray, List.set_cons_zero, List.set_cons_succ, Nat.zero_add]
        refine wpAnyY_take (i := 13) (v := ?_) rfl (by kernel_rfl) (by kernel_rfl) (by kernel_rfl) (by kernel_rfl) (fun _ _ _ h => h) (Or.inl ⟨by rfl, ?_⟩) (by assumption) ?_
        rotate_left 1
        · (intro w' hSw; obtain ⟨s0, s1, s2, s3⟩ := hSw; go_simp); try with_reducible rfl
        try simp only [Act.put, List.setIfInBounds_toArray, List.set_cons_zero, List.set_cons_succ, Nat.zero_add]
        refine wpAnyY_take (i := 14) (v := ?_) rfl (by kernel_rfl) (by kernel_rfl) (by kernel_rfl) (by kernel_rfl) (fun _ _ _ h => h) (Or.inl ⟨by rfl, ?_⟩) (by assumption) ?_
        rotate_left 1
        · (intro w' hSw; obtain ⟨s0, s1, s2, s3⟩ := hSw; go_simp); try with_reducible rfl
        try simp only [Act.put, List.setIfInBounds_toArray, List.set_cons_zero, List.set_cons_succ, Nat.zero_add]
        refine wpAnyY_take (i := 15) (v := ?_) rfl (by kernel_rfl) (by kernel_rfl) (by kernel_rfl) (by kernel_rfl) (fun _ _ _ h => h) (Or.inl ⟨by rfl, ?_⟩) (by assumption) ?_
        rotate_left 1
        · (intro w' hSw; obtain ⟨s0, s1, s2, s3⟩ := hSw; go_simp); try with_reducible rfl
        try simp only [Act.put, List.setIfInBounds_toArray, List.set_cons_zero, List.set_cons_succ, Nat.zero_add]
        refine wpAnyY_one (i := 16) rfl (by kernel_rfl) (fun K hK => ?_)
        go_simp
        refine (htwin_any A c m u F2 (fun b hx => Nat.lt_of_lt_of_le (hF2 b hx) HBU.out.size) (HMM.out.keep ENode.stays (Keep.below HBU.out hF2) (fun _ h => h)) (fun x hx => (hzm.1 x hx).2.1) hzm.2.2).mono ?_
        rintro _ w3 ⟨v, rfl, l, hown, hmap, hb3⟩
        have HO3 := Lib.hid hown; have HMAP := Lib.hid hmap
        have HB3 := Lib.hid (HBU.out.trans (hb3.mono HBU.out.size))
        have HM3 := Lib.hid (HMU.out.below hb3 HMU.out.lt)
        have HP3 := Lib.hid (HPU.out.below hb3 HPU.out.lt)
        obtain ⟨Av, cv, rfl⟩ : ∃ A c, v = .slice A m.nodes.length c := by
          obtain ⟨A', c', e⟩ := own_shape hown.row
          exact ⟨A', c', by rw [e, ← hmap, List.length_map]⟩
        have HUW : Hid (w.heap.size ≤ u.heap.size) := Lib.hid HBU.out.size
        clear hown hmap hb3
        go_simp
        refine hK.out _ _ (fun _ => HSS.out _ HP3.out HM3.out) ?_
        have hHeld3 := HSS.out _ HP3.out HM3.out
        clear hK K
        try simp only [Act.put, List.setIfInBounds_toArray, List.set_cons_zero, List.set_cons_succ, Nat.zero_add]
        refine wpAnyY_one (i := 17) rfl (by kernel_rfl) (fun K hK => ?_)
        go_simp
        obtain ⟨q, hq⟩ : ∃ q, w3.heap.size = q := ⟨_, rfl⟩
        obtain ⟨w4, hw4⟩ : ∃ x : World, w3.alloc (.cells #[.int .i64 m.next, .slice Av m.nodes.length cv] 27) = x := ⟨_, rfl⟩
        have HX : Hid (Below w3.heap.size w3 w4) := Lib.hid (by rw [← hw4]; exact (Below.refl _ _).alloc (Nat.le_refl _) _)
        have HQ4 : Hid (Blk w4 q 27 #[.int .i64 m.next, .slice Av m.nodes.length cv]) := Lib.hid (by rw [← hw4]; exact Blk.new' hq.symm)
        have HB4 := Lib.hid (HB3.out.trans (HX.out.mono HB3.out.size))
        have HM4 := Lib.hid (HM3.out.below HX.out HM3.out.lt)
        have HP4 := Lib.hid (HP3.out.below HX.out HP3.out.lt)
        have HO4 := Lib.hid (HO3.out.below HX.out)
        have hql4 : w3.heap.size < w4.heap.size := by rw [← hw4]; simp
        (try rw [hw4])
        (try rw [hq])
        clear hw4 HX
        refine hK.out _ _ (fun _ => HSS.out _ HP4.out HM4.out) ?_
        have hHeld4 := HSS.out _ HP4.out HM4.out
        clear hK K
        try simp only [Act.put, List.setIfInBounds_toArray, List.set_cons_zero, List.set_cons_succ, Nat.zero_add]
        refine wpAnyY_one (i := 18) rfl (by kernel_rfl) (fun K hK => ?_)
        have HRT : Hid (RowOf 2 EModel w4 (fun b => F b ∨ (w.heap.size ≤ b ∧ b < w4.heap.size)) (some ⟨b, off, none⟩) (P.ahead ++ [P.here])) := Lib.hid (by
          have := (HR.out.keep EModel.stays (Keep.below HB4.out hF) (F' := fun b => F b ∨ (w.heap.size ≤ b ∧ b < w4.heap.size)) (fun _ h => .inl h)).take (P.ahead.length + 1)
          rw [take_now] at this
          exact this)
        obtain ⟨css, c1, c2, c4, c5⟩ := HRT.out.css
        have hlen1 : (P.ahead ++ [P.here]).length = P.ahead.length + 1 := by simp
        have HOM : Hid (IsRow 7 ENode w4 (fun b => F b ∨ (w.heap.size ≤ b ∧ b < w4.heap.size)) (.slice Av m.nodes.length cv) m.nodes) := Lib.hid (by
          have := HO4.out.isRow (F := fun b => F b ∨ (w.heap.size ≤ b ∧ b < w4.heap.size)) (fun b h1 h2 => .inr ⟨by have := HUW.out; omega, h2⟩)
          rw [HMAP.out] at this
          exact this)
        refine step_grows (P := Try.prog) (E := EModel) (F := fun b => F b ∨ (w.heap.size ≤ b ∧ b < w4.heap.size)) (l := P.ahead ++ [P.here]) EModel.stays w4 (by rfl) (.tmp 40) (.tmp 43) 22 (by rfl) 27 Try.underlying22 model_info rfl (by omega) ⟨b, off, none⟩ (P.ahead.length + 1) (by rw [hlen1]; rfl) css c1 c2 c4 (c5 _ rfl) ⟨q, 0, none⟩ 1 [m] [[.int .i64 m.next, .slice Av m.nodes.length cv]] (by rfl) rfl (fun cs hcs => by simp at hcs; subst hcs; rfl) (fun i hi hi' => by
            have hi0 : i = 0 := by simp at hi; omega
            subst hi0
            exact ⟨_, rfl, HOM.out⟩) (by
            have := news_cells HQ4.out
            simpa using this) (fun b hx => hx.elim (fun h => by have := hF b h; have := HB4.out.size; omega) (fun h => h.2)) (by rw [hlen1]; simp) (by rw [hlen1]; unfold maxLen; simp; omega) (by rw [hlen1]; simp; omega) ?_
        intro A5 c5' w5 hown5 hb5
        rw [show (P.ahead ++ [P.here]).length + [m].length = P.ahead.length + 2 by simp] at hown5 ⊢
        have HROW5 := Lib.hid hown5
        have HB5 := Lib.hid (HB4.out.trans (hb5.mono HB4.out.size))
        have HM5 := Lib.hid (HM4.out.below hb5 HM4.out.lt)
        have HP5 := Lib.hid (HP4.out.below hb5 HP4.out.lt)
        have HW4 : Hid (w.heap.size ≤ w4.heap.size ∧ w4.heap.size ≤ w5.heap.size) := Lib.hid ⟨HB4.out.size, hb5.size⟩
        clear hown5 hb5 c1 c2 c4 c5
        refine hK.out _ _ (fun _ => HSS.out _ HP5.out HM5.out) ?_
        have hHeld5 := HSS.out _ HP5.out HM5.out
        clear hK K
        try simp only [Act.put, List.setIfInBounds_toArray, List.set_cons_zero, List.set_cons_succ, Nat.zero_add]
        refine wpAnyY_one0 (i := 19) rfl (by kernel_rfl) (by kernel_rfl) (fun K hK => ?_)
        go_simp
        refine hK.out _ _ ?_
        clear hK K
        try simp only [Act.put, List.setIfInBounds_toArray, List.set_cons_zero, List.set_cons_succ, Nat.zero_add]
        refine wpAnyY_done (by kernel_rfl) ?_ _
        clear hHeld hHeld3 hHeld4 hHeld5
        have hl5 : (P.ahead ++ [P.here] ++ [m]).length = P.ahead.length + 2 := by simp
        obtain ⟨xs, hown⟩ := HROW5.out.owns
        rw [hl5] at hown
        obtain ⟨g, rfl, hcap1, hcap2, hg1, hg2⟩ := own_pos hown (by omega)
        have HIS : Hid (IsRow 2 EModel w5 (fun b => F b ∨ (w.heap.size ≤ b ∧ b < w5.heap.size)) (.slice (some ⟨g, 0, none⟩) (P.ahead.length + 2) c5') (P.ahead ++ [P.here] ++ [m])) := Lib.hid (HROW5.out.isRow EModel.stays (fun b h1 h2 => h1.elim .inl (fun h => .inr ⟨h.1, h2⟩)) (fun b h1 h2 => .inr ⟨by have := HW4.out; omega, h2⟩))
        have HCP := Lib.hid (And.intro hcap1 hcap2)
        have HL5 := Lib.hid hl5
        clear hown hg1 hg2 hl5 hcap2
        have p0 := HP5.out.cell 0; have p1 := HP5.out.cell 1
        have z0 := HP5.out.frozen 0; have z1 := HP5.out.frozen 1
        have hp5lt := HP5.out.lt
        simp at p0 p1
        have g1 : (1 : Int) ≤ (P.ahead.length : Int) + 2 := by omega
        have g2 : (P.ahead.length : Int) + 2 ≤ c5' := by omega
        have HFAR : Hid (∀ (x y : Value) (q : Nat), q ≠ p → ((w5.setCell ⟨p, 0, none⟩ x).setCell ⟨p, 1, none⟩ y).heap[q]? = w5.heap[q]?) := Lib.hid (fun x y q hq => (Below.heap_setCell _ _ _ _ hq).trans (Below.heap_setCell _ _ _ _ hq))
        have HKP : Hid (∀ (x y : Value), KeepO (· = p) w ((w5.setCell ⟨p, 0, none⟩ x).setCell ⟨p, 1, none⟩ y)) := Lib.hid (fun x y => (((KeepO.refl (fun b => b = p) w).below HB5.out).set_ rfl _ _).set_ rfl _ _)
        have h65 : decide ((P.ahead.length : Int) + 2 > 65) = false := decide_eq_false (by omega)
        go_wp2
        go_ret
        rw [← HPX.out]
        have e1 : (⟨P.ahead ++ [P.here], m, []⟩ : APast).list.length = P.ahead.length + 2 := by simp [APast.list]
        have e2 : ((P.ahead ++ [P.here]).length : Int) = (P.ahead.length : Int) + 2 - 1 := by simp; omega
        refine ⟨rfl, HKP.out _ _, ⟨some ⟨g, 0, none⟩, c5', ?_, by rw [e1]; have := HCP.out; omega, by have := HCP.out; omega, ?_⟩⟩
        · rw [e1]
          show Blk _ p _ #[.slice (some ⟨g, 0, none⟩) (P.ahead.length + 2) c5', .int .i64 ((P.ahead ++ [P.here]).length : Nat)]
          rw [e2]
          simpa using (HP5.out.set_ 0 (.slice (some ⟨g, 0, none⟩) (P.ahead.length + 2) c5')).set_ 1 (.int .i64 ((P.ahead.length : Int) + 2 - 1))
        · refine HIS.out.row.keep EModel.stays (fun q hq => World.cell?_of_block (HFAR.out _ _ _ ?_)) (fun b hb => hb.elim .inl fun h => .inr ⟨h.1, by simpa using h.2⟩)
          rcases hq with hq | hq
          · exact fun e => hpF (e ▸ hq)
          · have := hq.1; omega
  · rw [pushP_no hE]
    have HCK : Hid (∀ w', Below w.heap.size w w' → Calls Try.prog 30 #[.agg #[.int .i64 m.next, .slice A m.nodes.length c]] w' fun e w2 => e = .returned (.int .i64 29) ∧ Below w'.heap.size w' w2) := Lib.hid (fun w' hb => by
      have := check_any A c m w' F2 (fun b hx => Nat.lt_of_lt_of_le (hF2 b hx) hb.size) (HMM.out.keep ENode.stays (Keep.below hb hF2) (fun _ h => h)) (fun x hx => (hzm.1 x hx).1) (by have := hzm.2.2; omega)
      rw [hE] at this
      exact this)
    clear hE
    go_enter Try.func16, Try.ntmps16
    go_upto_region 1 with fail
    obtain ⟨u0, hu0⟩ : ∃ u : World, w.alloc (.cells #[.int .i64 m.next, .slice A m.nodes.length c] 27) = u := ⟨_, rfl⟩
    have HB0 : Hid (Below w.heap.size w u0) := Lib.hid (by rw [← hu0]; exact (Below.refl w.heap.size w).alloc (Nat.le_refl _) _)
    have HM0 : Hid (Blk u0 w.heap.size 27 #[.int .i64 m.next, .slice A m.nodes.length c]) := Lib.hid (by rw [← hu0]; exact Blk.new _ _ _)
    have HP0 : Hid (Blk u0 p 69 #[.slice (some ⟨b, off, none⟩) P.list.length cp, .int .i64 P.ahead.length]) := Lib.hid (HPB.out.below HB0.out hplt)
    (try rw [hu0])
    clear hu0
    have m0 := HM0.out.cell 0; have m1 := HM0.out.cell 1
    have hmlt := HM0.out.lt
    simp at m0 m1
    go_wp2_with (go_at_call 41; refine (HN.out _ HP0.out).mono ?_; rintro _ _ ⟨rfl, rfl⟩)
    refine (HCK.out _ HB0.out).mono ?_
    rintro _ w1 ⟨rfl, hb⟩
    have HB1 := Lib.hid (HB0.out.trans (hb.mono HB0.out.size))
    have HM1 := Lib.hid (HM0.out.below hb hmlt)
    have HP1 := Lib.hid (HP0.out.below hb HP0.out.lt)
    clear hb HB0 HM0 HP0 m0 m1 hmlt HCK
    go_wp2
    go_ret
    exact ⟨rfl, (KeepO.refl _ _).below HB1.out, HPAST.out _ HB1.out⟩
end Go.Proofs.Ytpjkifbicfcajaa
