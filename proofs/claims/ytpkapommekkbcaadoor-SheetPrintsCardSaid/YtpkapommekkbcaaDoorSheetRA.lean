/- the document's lines: topiaryref03.Line, Prop, Ref -/
import Derived.Test.YtpkapommekkbcaaDoorQuoteR
import Derived.Lib.QuietBelow
set_option linter.unusedSimpArgs false
set_option linter.unusedVariables false
namespace Go.Proofs.YtpkapommekkbcaaDoor
open Go Go.RowKit

theorem shown_any (x : Int) (h1 : 1 ≤ x) (h2 : x ≤ 2147483647) (w : World) : Calls Tryd.prog 21 #[.int .i64 x] w fun e w' => e = .returned (.string (byt (digs x.toNat))) ∧ Below w.heap.size w w' := by
  obtain ⟨n, rfl⟩ := Int.eq_ofNat_of_zero_le (show 0 ≤ x by omega)
  have HS := Lib.hid (rshow_any n (by omega) (by omega) w)
  rw [show (Int.toNat (n : Int)) = n from rfl]
  go_enter Tryd.func21, Tryd.ntmps21
  go_wp2_with (go_at_call 39; refine HS.out.mono ?_)
  rintro _ w' ⟨rfl, rfl⟩
  go_wp2
  go_ret
  exact ⟨rfl, Below.refl _ _⟩
theorem blanksB_any (n : Nat) (w : World) (hn : n ≤ 100000) : Calls Tryd.prog 43 #[.int .i64 n] w fun e w' => e = .returned (.string (byt (blanksL n))) ∧ Below w.heap.size w w' :=
  (rblanks_any n w hn).mono fun _ _ ⟨h1, h2⟩ => ⟨h1, by subst h2; exact Below.refl _ _⟩

set_option maxRecDepth 100000 in
set_option maxHeartbeats 2000000 in
theorem rprop_any (p : AProp) (d : Nat) (hd : d ≤ 1000) (h1 : p.name.size ≤ 1000) (h2 : p.value.size ≤ 1000000) (w : World) :
    Calls Tryd.prog 26 #[.agg #[.string p.name, .string p.value], .int .i64 d] w fun e w' => e = .returned (.string (byt (lineP d p))) ∧ Below w.heap.size w w' := by
  have HBL := Lib.hid (fun w => blanksB_any d w (by omega))
  have HQU := Lib.hid (fun w => rquote_any p.value w (by omega))
  have hq0 := quote_len p.value.data.toList
  have HX : Hid ((((byt (blanksL d) ++ ⟨#[46]⟩) ++ p.name) ++ ⟨#[61]⟩) ++ byt (quoteL p.value.data.toList) = byt (lineP d p)) := Lib.hid (by
    rw [← byt_of p.name, show (⟨#[46]⟩ : ByteArray) = byt [46] from rfl, show (⟨#[61]⟩ : ByteArray) = byt [61] from rfl, byt_app, byt_app, byt_app, byt_app]
    unfold lineP
    simp only [byt_list, List.append_assoc])
  obtain ⟨bs, hbs⟩ : ∃ z, byt (blanksL d) = z := ⟨_, rfl⟩
  have hb1 : bs.size ≤ 1000 := by rw [← hbs, byt_size, blanks_len]; exact hd
  obtain ⟨qs, hqs⟩ : ∃ z, byt (quoteL p.value.data.toList) = z := ⟨_, rfl⟩
  have hq1 : qs.size ≤ 4000002 := by
    rw [← hqs, byt_size]
    have : p.value.data.toList.length = p.value.size := rfl
    omega
  rw [hbs] at HBL HX
  rw [hqs] at HQU HX
  obtain ⟨T, hT⟩ : ∃ z, byt (lineP d p) = z := ⟨_, rfl⟩
  rw [hT] at HX ⊢
  obtain ⟨nm, hnm⟩ : ∃ z, p.name = z := ⟨_, rfl⟩
  obtain ⟨vl, hvl⟩ : ∃ z, p.value = z := ⟨_, rfl⟩
  rw [hnm] at HX h1 ⊢
  rw [hvl] at HQU ⊢
  clear hbs hqs hT hnm hvl hq0 h2
  have n1 : ¬ 9223372036854775807 < bs.size + 1 := by omega
  have n2 : ¬ 9223372036854775807 < bs.size + 1 + nm.size := by omega
  have n3 : ¬ 9223372036854775807 < bs.size + 1 + nm.size + 1 := by omega
  have n4 : ¬ 9223372036854775807 < bs.size + 1 + nm.size + 1 + qs.size := by omega
  obtain ⟨u0, hu0⟩ : ∃ u : World, w.alloc (.cells #[.string nm, .string vl] 57) = u := ⟨_, rfl⟩
  have HWB : Hid (Below w.heap.size w u0) := Lib.hid (by rw [← hu0]; exact (Below.refl _ _).alloc (Nat.le_refl _) _)
  have HM0 : Hid (Blk u0 w.heap.size 57 #[.string nm, .string vl]) := Lib.hid (by rw [← hu0]; exact Blk.new _ _ _)
  have HU0 := Lib.hid hu0
  clear hu0
  go_enter Tryd.func26, Tryd.ntmps26
  go_upto_region 1 with fail
  rw [HU0.out]
  have m0 := HM0.out.cell 0; have m1 := HM0.out.cell 1
  have mlt := HM0.out.lt
  simp at m0 m1
  have k0 := cell_regrown m0
  have k1 := cell_regrown m1
  have CHA := Lib.hid (fun (w0 : World) (d : Nat) (os : Array Obj) => Calls.regrown_of (w := w0) (d := d) (os := os) (HBL.out _))
  have CHB := Lib.hid (fun (w0 : World) (d : Nat) (os : Array Obj) => Calls.regrown_of (w := w0) (d := d) (os := os) (HQU.out _))
  clear m0 m1 HBL HQU
  refine wp_region_quiet_below (by kernel_rfl) (by kernel_rfl) ?_
  iterate 5 (first | go_big_quiet_step (exact CHA.out _ _ _) | quiet_step (exact CHA.out _ _ _))
  repeat (first | go_big_quiet_step (exact CHB.out _ _ _) | quiet_step (exact CHB.out _ _ _))
  refine wpQuiet_nil ?_
  intro _ hw'
  obtain ⟨⟨dq, osq⟩, hw''⟩ := hw'
  subst hw''
  have HB := Lib.hid (below_regrown u0 dq osq)
  clear k0 k1 CHA CHB
  go_wp2
  go_ret
  exact ⟨by rw [← HX.out]; rfl, HWB.out.trans (HB.out.mono HWB.out.size)⟩
set_option maxRecDepth 100000 in
set_option maxHeartbeats 2000000 in
theorem rref_any (p : ARef) (d : Nat) (hd : d ≤ 1000) (h1 : p.role.size ≤ 1000) (h2 : 1 ≤ p.target) (h3 : p.target ≤ 2147483647) (w : World) :
    Calls Tryd.prog 27 #[.agg #[.string p.role, .int .i64 p.target], .int .i64 d] w fun e w' => e = .returned (.string (byt (lineR d p))) ∧ Below w.heap.size w w' := by
  have HBL := Lib.hid (fun w => blanksB_any d w (by omega))
  have HQU := Lib.hid (fun w => shown_any p.target h2 h3 w)
  have hq0 := digs_len 9 p.target.toNat (by omega)
  have HX : Hid ((((byt (blanksL d) ++ ⟨#[62]⟩) ++ p.role) ++ ⟨#[61]⟩) ++ byt (digs p.target.toNat) = byt (lineR d p)) := Lib.hid (by
    rw [← byt_of p.role, show (⟨#[62]⟩ : ByteArray) = byt [62] from rfl, show (⟨#[61]⟩ : ByteArray) = byt [61] from rfl, byt_app, byt_app, byt_app, byt_app]
    unfold lineR
    simp only [byt_list, List.append_assoc])
  obtain ⟨bs, hbs⟩ : ∃ z, byt (blanksL d) = z := ⟨_, rfl⟩
  have hb1 : bs.size ≤ 1000 := by rw [← hbs, byt_size, blanks_len]; exact hd
  obtain ⟨qs, hqs⟩ : ∃ z, byt (digs p.target.toNat) = z := ⟨_, rfl⟩
  have hq1 : qs.size ≤ 4000002 := by
    rw [← hqs, byt_size]
    omega
  rw [hbs] at HBL HX
  rw [hqs] at HQU HX
  obtain ⟨T, hT⟩ : ∃ z, byt (lineR d p) = z := ⟨_, rfl⟩
  rw [hT] at HX ⊢
  obtain ⟨nm, hnm⟩ : ∃ z, p.role = z := ⟨_, rfl⟩
  obtain ⟨vl, hvl⟩ : ∃ z, p.target = z := ⟨_, rfl⟩
  rw [hnm] at HX h1 ⊢
  rw [hvl] at HQU ⊢
  clear hbs hqs hT hnm hvl hq0 h2 h3
  have n1 : ¬ 9223372036854775807 < bs.size + 1 := by omega
  have n2 : ¬ 9223372036854775807 < bs.size + 1 + nm.size := by omega
  have n3 : ¬ 9223372036854775807 < bs.size + 1 + nm.size + 1 := by omega
  have n4 : ¬ 9223372036854775807 < bs.size + 1 + nm.size + 1 + qs.size := by omega
  obtain ⟨u0, hu0⟩ : ∃ u : World, w.alloc (.cells #[.string nm, .int .i64 vl] 60) = u := ⟨_, rfl⟩
  have HWB : Hid (Below w.heap.size w u0) := Lib.hid (by rw [← hu0]; exact (Below.refl _ _).alloc (Nat.le_refl _) _)
  have HM0 : Hid (Blk u0 w.heap.size 60 #[.string nm, .int .i64 vl]) := Lib.hid (by rw [← hu0]; exact Blk.new _ _ _)
  have HU0 := Lib.hid hu0
  clear hu0
  go_enter Tryd.func27, Tryd.ntmps27
  go_upto_region 1 with fail
  rw [HU0.out]
  have m0 := HM0.out.cell 0; have m1 := HM0.out.cell 1
  have mlt := HM0.out.lt
  simp at m0 m1
  have k0 := cell_regrown m0
  have k1 := cell_regrown m1
  have CHA := Lib.hid (fun (w0 : World) (d : Nat) (os : Array Obj) => Calls.regrown_of (w := w0) (d := d) (os := os) (HBL.out _))
  have CHB := Lib.hid (fun (w0 : World) (d : Nat) (os : Array Obj) => Calls.regrown_of (w := w0) (d := d) (os := os) (HQU.out _))
  clear m0 m1 HBL HQU
  refine wp_region_quiet_below (by kernel_rfl) (by kernel_rfl) ?_
  iterate 5 (first | go_big_quiet_step (exact CHA.out _ _ _) | quiet_step (exact CHA.out _ _ _))
  repeat (first | go_big_quiet_step (exact CHB.out _ _ _) | quiet_step (exact CHB.out _ _ _))
  refine wpQuiet_nil ?_
  intro _ hw'
  obtain ⟨⟨dq, osq⟩, hw''⟩ := hw'
  subst hw''
  have HB := Lib.hid (below_regrown u0 dq osq)
  clear k0 k1 CHA CHB
  go_wp2
  go_ret
  exact ⟨by rw [← HX.out]; rfl, HWB.out.trans (HB.out.mono HWB.out.size)⟩

set_option maxRecDepth 100000 in
set_option maxHeartbeats 4000000 in
theorem rline_any (z : ANode) (d : Nat) (h0 : 1 ≤ d) (hd : d ≤ 1000) (hr0 : d ≤ 1 → z.role = ⟨#[]⟩) (h1 : z.concept.size ≤ 1000) (h2 : z.role.size ≤ 1000) (h3 : 1 ≤ z.id) (h4 : z.id ≤ 2147483647) (vp vk vr : Value) (w : World) :
    Calls Tryd.prog 25 #[.agg #[.int .i64 z.id, .string z.concept, .int .i64 z.parent, .string z.role, vp, vk, vr], .int .i64 d] w fun e w' => e = .returned (.string (byt (lineN z d))) ∧ Below w.heap.size w w' := by
  have hdc : ((d - 1 : Nat) : Int) = (d : Int) - 1 := by omega
  have HBL := Lib.hid (fun w => blanksB_any (d - 1) w (by omega))
  rw [hdc] at HBL
  have HQU := Lib.hid (fun w => shown_any z.id h3 h4 w)
  have hq0 := digs_len 9 z.id.toNat (by omega)
  have HX1 : Hid (1 < d → (((((byt (blanksL (d - 1)) ++ byt (digs z.id.toNat)) ++ ⟨#[32]⟩) ++ z.role) ++ ⟨#[32]⟩) ++ z.concept : ByteArray) = byt (lineN z d)) := Lib.hid (fun h => by
    rw [← byt_of z.role, ← byt_of z.concept, show (⟨#[32]⟩ : ByteArray) = byt [32] from rfl, byt_app, byt_app, byt_app, byt_app, byt_app]
    unfold lineN roleL
    rw [if_pos h]
    simp only [byt_list, List.append_assoc])
  have HX0 : Hid (¬ 1 < d → (((byt (blanksL (d - 1)) ++ byt (digs z.id.toNat)) ++ ⟨#[32]⟩) ++ z.concept : ByteArray) = byt (lineN z d)) := Lib.hid (fun h => by
    rw [← byt_of z.concept, show (⟨#[32]⟩ : ByteArray) = byt [32] from rfl, byt_app, byt_app, byt_app]
    unfold lineN roleL
    rw [if_neg h, hr0 (by omega)]
    simp only [byt_list, List.append_assoc]
    rfl)
  obtain ⟨bs, hbs⟩ : ∃ z, byt (blanksL (d - 1)) = z := ⟨_, rfl⟩
  have hb1 : bs.size ≤ 1000 := by rw [← hbs, byt_size, blanks_len]; omega
  obtain ⟨qs, hqs⟩ : ∃ s, byt (digs z.id.toNat) = s := ⟨_, rfl⟩
  have hq1 : qs.size ≤ 4000002 := by
    rw [← hqs, byt_size]
    omega
  rw [hbs] at HBL HX0 HX1
  rw [hqs] at HQU HX0 HX1
  obtain ⟨T, hT⟩ : ∃ s, byt (lineN z d) = s := ⟨_, rfl⟩
  rw [hT] at HX0 HX1 ⊢
  obtain ⟨cn, hcn⟩ : ∃ s, z.concept = s := ⟨_, rfl⟩
  obtain ⟨rl, hrl⟩ : ∃ s, z.role = s := ⟨_, rfl⟩
  obtain ⟨id, hid⟩ : ∃ s, z.id = s := ⟨_, rfl⟩
  obtain ⟨pr, hpr⟩ : ∃ s, z.parent = s := ⟨_, rfl⟩
  rw [hcn] at HX0 HX1 h1 ⊢
  rw [hrl] at HX1 h2 ⊢
  rw [hid] at HQU ⊢
  rw [hpr]
  clear hbs hqs hT hcn hrl hid hpr hq0 hr0 h3 h4 hdc
  have n1 : ¬ 9223372036854775807 < bs.size + qs.size := by omega
  have n2 : ¬ 9223372036854775807 < bs.size + qs.size + 1 := by omega
  have n3 : ¬ 9223372036854775807 < bs.size + qs.size + 1 + rl.size := by omega
  have n4 : ¬ 9223372036854775807 < bs.size + qs.size + 1 + rl.size + 1 := by omega
  have n5 : ¬ 9223372036854775807 < bs.size + qs.size + 1 + rl.size + 1 + cn.size := by omega
  have n6 : ¬ 9223372036854775807 < bs.size + qs.size + 1 + cn.size := by omega
  have hd0 : (1 : Int) ≤ d := by omega
  have hdw : IntKind.i64.wrap ((d : Int) - 1) = (d : Int) - 1 := IntWalk.i64_in _ ⟨by omega, by omega⟩
  obtain ⟨u0, hu0⟩ : ∃ u : World, w.alloc (.cells #[.int .i64 id, .string cn, .int .i64 pr, .string rl, vp, vk, vr] 37) = u := ⟨_, rfl⟩
  have HWB : Hid (Below w.heap.size w u0) := Lib.hid (by rw [← hu0]; exact (Below.refl _ _).alloc (Nat.le_refl _) _)
  have HM0 : Hid (Blk u0 w.heap.size 37 #[.int .i64 id, .string cn, .int .i64 pr, .string rl, vp, vk, vr]) := Lib.hid (by rw [← hu0]; exact Blk.new _ _ _)
  have HU0 := Lib.hid hu0
  clear hu0
  go_enter Tryd.func25, Tryd.ntmps25
  go_upto_region 1 with fail
  rw [HU0.out]
  have m0 := HM0.out.cell 0
  have mlt := HM0.out.lt
  simp at m0
  have k0 := cell_regrown m0
  have CHA := Lib.hid (fun (w0 : World) (d : Nat) (os : Array Obj) => Calls.regrown_of (w := w0) (d := d) (os := os) (HBL.out _))
  have CHB := Lib.hid (fun (w0 : World) (d : Nat) (os : Array Obj) => Calls.regrown_of (w := w0) (d := d) (os := os) (HQU.out _))
  clear m0 HBL HQU
  refine wp_region_quiet_below (by kernel_rfl) (by kernel_rfl) ?_
  iterate 5 (first | go_big_quiet_step (exact CHA.out _ _ _) | quiet_step (exact CHA.out _ _ _))
  repeat (first | go_big_quiet_step (exact CHB.out _ _ _) | quiet_step (exact CHB.out _ _ _))
  refine wpQuiet_nil ?_
  intro _ hw'
  obtain ⟨⟨dq, osq⟩, hw''⟩ := hw'
  subst hw''
  have HB := Lib.hid (below_regrown u0 dq osq)
  have HM1 := Lib.hid (HM0.out.below HB.out mlt)
  obtain ⟨u1, hu1⟩ : ∃ u, Sort.grow (redrawn u0 dq) osq = u := ⟨_, rfl⟩
  rw [hu1] at HB HM1 ⊢
  clear hu1 k0 CHA CHB mlt
  have m1 := HM1.out.cell 1; have m3 := HM1.out.cell 3
  have mlt := HM1.out.lt
  simp at m1 m3
  by_cases h11 : 1 < d
  · have g11 : (1 : Int) < d := by omega
    have HX := Lib.hid (HX1.out h11)
    clear h11 HX0 HX1
    go_wp2
    go_ret
    exact ⟨by rw [← HX.out]; rfl, HWB.out.trans (HB.out.mono HWB.out.size)⟩
  · have g11 : ¬ (1 : Int) < d := by omega
    have HX := Lib.hid (HX0.out h11)
    clear h11 HX0 HX1
    go_wp2
    go_ret
    exact ⟨by rw [← HX.out]; rfl, HWB.out.trans (HB.out.mono HWB.out.size)⟩
end Go.Proofs.YtpkapommekkbcaaDoor
