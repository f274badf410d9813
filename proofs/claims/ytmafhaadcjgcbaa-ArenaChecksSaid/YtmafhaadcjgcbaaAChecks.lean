/- the law of what a model and a word are -/
import Derived.Test.YtmafhaadcjgcbaaAChecksP
import Derived.Test.YtmafhaadcjgcbaaRegX
namespace Go.Proofs.Ytmafhaadcjgcbaa
open Go Go.RowKit

def bigB (a b : AModel) : Bool := decide (300 < a.nodes.length ∨ 300 < b.nodes.length)
theorem bigB_yes {a b : AModel} (h : 300 < a.nodes.length ∨ 300 < b.nodes.length) : bigB a b = true := decide_eq_true h
theorem bigB_no {a b : AModel} (h : ¬ (300 < a.nodes.length ∨ 300 < b.nodes.length)) : bigB a b = false := decide_eq_false h
theorem bigB_right {a b : AModel} (h : ¬ 300 < a.nodes.length) : decide (300 < b.nodes.length) = bigB a b := by simp [bigB, h]

set_option maxRecDepth 100000 in
set_option maxHeartbeats 4000000 in
theorem checks_any (va vb : Value) (a b : AModel) (s : ByteArray) (w : World) (h : IsModel w (fun b => b < w.heap.size) va a) (h' : IsModel w (fun b => b < w.heap.size) vb b) (hs : s.size ≤ 9223372036854775807)
    (hz : ∀ x ∈ a.nodes, NodeOK x ∧ LensOK x) (hz' : ∀ x ∈ b.nodes, NodeOK x ∧ LensOK x) :
    Calls Try.prog 3 #[va, vb, .string s] w fun e w' => e = .returned (.bool true) ∧ Below w.heap.size w w' := by
  have HMA := Lib.hid h
  have HMB := Lib.hid h'
  obtain ⟨_, rfl, A, c, rfl, ca1, ca2, ra⟩ := h
  obtain ⟨_, rfl, B, d1, rfl, cb1, cb2, rb⟩ := h'
  unfold maxLen at ca2 cb2
  have HB0 := Lib.hid (((Below.refl w.heap.size w).alloc (Nat.le_refl _) (.cells #[.int .i64 a.next, .slice A a.nodes.length c] 24)).alloc (by simp) (.cells #[.int .i64 b.next, .slice B b.nodes.length d1] 24))
  have HGA := Lib.hid (fun (w0 : World) (hb0 : Below w.heap.size w w0) => great_any _ a w0 _ (HMA.out.keep (Keep.below hb0 fun _ h => h) (F' := fun b => b < w0.heap.size) (fun b hb => Nat.lt_of_lt_of_le hb hb0.size)))
  have HGB := Lib.hid (fun (w0 : World) (hb0 : Below w.heap.size w w0) => great_any _ b w0 _ (HMB.out.keep (Keep.below hb0 fun _ h => h) (F' := fun b => b < w0.heap.size) (fun b hb => Nat.lt_of_lt_of_le hb hb0.size)))
  have HCK := Lib.hid (fun (w0 : World) (hb0 : Below w.heap.size w w0) => lcheck_any A c a w0 (fun b => b < w.heap.size) (fun b hb => Nat.lt_of_lt_of_le hb hb0.size) (ra.keep ENode.stays (Keep.below hb0 fun _ h => h) (fun _ h => h)) (fun x hx => (hz x hx).1) (by omega))
  have HC0 := Lib.hid (fun (w0 : World) (hb0 : Below w.heap.size w w0) => check_any A c a w0 (fun b => b < w.heap.size) (fun b hb => Nat.lt_of_lt_of_le hb hb0.size) (ra.keep ENode.stays (Keep.below hb0 fun _ h => h) (fun _ h => h)) (fun x hx => (hz x hx).1) (by omega))
  have big : ∀ (v : World) (o0 : v.cell? ⟨w.heap.size, 0, none⟩ = some (.int .i64 a.next)) (o1 : v.cell? ⟨w.heap.size, 1, none⟩ = some (.slice A a.nodes.length c)), True := fun _ _ _ => trivial
  clear big
  go_enter Try.func3, Try.ntmps3
  go_upto_region 1 with fail
  obtain ⟨v, hv⟩ : ∃ v : World, (w.alloc (.cells #[.int .i64 a.next, .slice A a.nodes.length c] 24)).alloc (.cells #[.int .i64 b.next, .slice B b.nodes.length d1] 24) = v := ⟨_, rfl⟩
  have HBV : Hid (Below w.heap.size w v) := Lib.hid (by rw [← hv]; exact HB0.out)
  have HM : Hid (Blk v w.heap.size 24 #[.int .i64 a.next, .slice A a.nodes.length c]) := Lib.hid (by rw [← hv]; exact (Blk.new _ _ _).alloc _)
  have HN : Hid (Blk v (w.heap.size + 1) 24 #[.int .i64 b.next, .slice B b.nodes.length d1]) := Lib.hid (by rw [← hv]; exact Blk.new' (by simp))
  rw [hv]
  clear hv HB0
  go_cut [14] (fun s14 wx => s14 = .bool (bigB a b) ∧ Below w.heap.size w wx ∧ Blk wx w.heap.size 24 #[.int .i64 a.next, .slice A a.nodes.length c] ∧ Blk wx (w.heap.size + 1) 24 #[.int .i64 b.next, .slice B b.nodes.length d1])
  case first =>
    have m0 := HM.out.cell 0; have m1 := HM.out.cell 1; have n0 := HN.out.cell 0; have n1 := HN.out.cell 1
    have hmlt := HM.out.lt; have hnlt := HN.out.lt
    simp at m0 m1 n0 n1
    by_cases hga : 300 < a.nodes.length
    · have HG := Lib.hid (fun w0 hb0 => res_is (decide_eq_true hga) (HGA.out w0 hb0))
      have E := Lib.hid (bigB_yes (a := a) (b := b) (Or.inl hga))
      clear hga HGA HGB
      go_wp2_with fail
      refine (HG.out _ HBV.out).mono ?_
      rintro _ w2 ⟨rfl, hb2⟩
      have HB2 := Lib.hid (HBV.out.trans (hb2.mono HBV.out.size))
      have HM2 := Lib.hid (HM.out.below hb2 hmlt)
      have HN2 := Lib.hid (HN.out.below hb2 hnlt)
      clear hb2
      go_wp2
      go_meet
      case rel => exact ⟨by rw [E.out], HB2.out, HM2.out, HN2.out⟩
    · have HG := Lib.hid (fun w0 hb0 => res_is (decide_eq_false hga) (HGA.out w0 hb0))
      have E := Lib.hid (bigB_right (b := b) hga)
      have HGB' := Lib.hid (fun w0 hb0 => res_is E.out (HGB.out w0 hb0))
      clear hga HGA
      go_wp2_with fail
      refine (HG.out _ HBV.out).mono ?_
      rintro _ w2 ⟨rfl, hb2⟩
      have HB2 := Lib.hid (HBV.out.trans (hb2.mono HBV.out.size))
      have HM2 := Lib.hid (HM.out.below hb2 hmlt)
      have HN2 := Lib.hid (HN.out.below hb2 hnlt)
      have n0 := HN2.out.cell 0; have n1 := HN2.out.cell 1
      simp at n0 n1
      have hmlt2 := HM2.out.lt; have hnlt2 := HN2.out.lt
      clear hb2 HG
      go_wp2_with fail
      refine (HGB'.out _ HB2.out).mono ?_
      rintro _ w3 ⟨rfl, hb3⟩
      have HB3 := Lib.hid (HB2.out.trans (hb3.mono HB2.out.size))
      have HM3 := Lib.hid (HM2.out.below hb3 hmlt2)
      have HN3 := Lib.hid (HN2.out.below hb3 hnlt2)
      clear hb3
      go_wp2
      go_meet
      case rel => exact ⟨rfl, HB3.out, HM3.out, HN3.out⟩
  case rest =>
    obtain ⟨rfl, hb, hmb, hnb⟩ := hcut
    clear HBV HM HN HGA HGB
    obtain ⟨v, rfl⟩ : ∃ v : World, v = wc := ⟨_, rfl⟩
    have HB := Lib.hid hb; have HM := Lib.hid hmb; have HN := Lib.hid hnb
    have o0 := hmb.cell 0; have o1 := hmb.cell 1; have o2 := hnb.cell 0; have o3 := hnb.cell 1
    have hmlt := hmb.lt; have hnlt := hnb.lt
    simp at o0 o1 o2 o3
    clear hb hmb hnb
    rcases hg : bigB a b with _ | _
    rotate_left 1
    · clear hg
      go_wp2_with fail
      have k0 := cell_regrown (o0)
      have k1 := cell_regrown (o1)
      have j0 := cell_regrown (o2)
      have j1 := cell_regrown (o3)
      have CW := Lib.hid (fun (d : Nat) (os : Array Obj) => Calls.regrown_of (w := v) (d := d) (os := os) (HC0.out _ (HB.out.trans ((below_regrown v d os).mono HB.out.size))))
      have CV := Lib.hid (fun (d : Nat) (os : Array Obj) => Calls.regrown_of (w := v) (d := d) (os := os) (HCK.out _ (HB.out.trans ((below_regrown v d os).mono HB.out.size))))
      clear o0 o1 o2 o3
      refine wp_region_quiet_below (by kernel_rfl) (by kernel_rfl) ?_
      repeat (first | go_big_quiet_step ((first | with_reducible exact CW.out _ _ | with_reducible exact CV.out _ _)) | quiet_step ((first | with_reducible exact CW.out _ _ | with_reducible exact CV.out _ _)))
      refine wpQuiet_nil ?_
      intro _ hw'
      obtain ⟨⟨dq, osq⟩, hw''⟩ := hw'
      subst hw''
      go_wp2
      go_ret
      exact ⟨by simp, HB.out.trans ((below_regrown v dq osq).mono HB.out.size)⟩
    · have hla : a.nodes.length ≤ 300 := by unfold bigB at hg; simp at hg; omega
      have hlb : b.nodes.length ≤ 300 := by unfold bigB at hg; simp at hg; omega
      clear hg
      have HLA := Lib.hid (fun (w0 : World) (hb0 : Below v.heap.size v w0) => lent_any A c a w0 (fun b => b < w.heap.size) (fun b hb => by have := HB.out.size; have := hb0.size; omega) (ra.keep ENode.stays (Keep.below (HB.out.trans (hb0.mono HB.out.size)) fun _ h => h) (fun _ h => h)) (fun x hx => (hz x hx).2) hla)
      have HLB := Lib.hid (fun (w0 : World) (hb0 : Below v.heap.size v w0) => lent_any B d1 b w0 (fun b => b < w.heap.size) (fun b hb => by have := HB.out.size; have := hb0.size; omega) (rb.keep ENode.stays (Keep.below (HB.out.trans (hb0.mono HB.out.size)) fun _ h => h) (fun _ h => h)) (fun x hx => (hz' x hx).2) hlb)
      go_upto_region 3 with fail
      go_cut [7, 8] (fun s7 s8 wx => ∃ (p q : Nat) (Ax Ay : Option Addr) (cx cy : Nat), s7 = .pointer (some ⟨p, 0, none⟩) ∧ s8 = .pointer (some ⟨q, 0, none⟩) ∧ Below v.heap.size v wx ∧ Blk wx p 24 #[.int .i64 a.next, .slice Ax a.nodes.length cx] ∧ Blk wx q 24 #[.int .i64 b.next, .slice Ay b.nodes.length cy] ∧ (∃ F : Nat → Prop, IsModelM wx F (.agg #[.int .i64 a.next, .slice Ax a.nodes.length cx]) a ∧ ∀ c, F c → c < wx.heap.size) ∧ ∃ F : Nat → Prop, IsModelM wx F (.agg #[.int .i64 b.next, .slice Ay b.nodes.length cy]) b ∧ ∀ c, F c → c < wx.heap.size)
      case first => as_aux_lemma =>
        obtain ⟨W0, hW0⟩ : ∃ W0 : World, v.drew = W0 := ⟨_, rfl⟩
        have HW0 : Hid (Below v.heap.size v W0) := Lib.hid (by rw [← hW0]; exact (Below.refl _ _).drew)
        have HWS : Hid (W0.heap.size = v.heap.size) := Lib.hid (by rw [← hW0]; rfl)
        have HA0 : Hid (w.heap.size < W0.heap.size) := Lib.hid (by rw [HWS.out]; exact hmlt)
        have HA1 : Hid (w.heap.size + 1 < W0.heap.size) := Lib.hid (by rw [HWS.out]; exact hnlt)
        have q0 : W0.cell? ⟨w.heap.size, 0, none⟩ = some (.int .i64 a.next) := by rw [← hW0]; exact o0
        have q1 : W0.cell? ⟨w.heap.size, 1, none⟩ = some (.slice A a.nodes.length c) := by rw [← hW0]; exact o1
        have q2 : W0.cell? ⟨w.heap.size + 1, 0, none⟩ = some (.int .i64 b.next) := by rw [← hW0]; exact o2
        have q3 : W0.cell? ⟨w.heap.size + 1, 1, none⟩ = some (.slice B b.nodes.length d1) := by rw [← hW0]; exact o3
        replace o0 := q0; replace o1 := q1; replace o2 := q2; replace o3 := q3
        clear q0 q1 q2 q3
        refine wp_region_X (S := (fun w' => w'.cell? ⟨w.heap.size, 0, none⟩ = some (.int .i64 a.next) ∧ w'.cell? ⟨w.heap.size, 1, none⟩ = some (.slice A a.nodes.length c) ∧ w'.cell? ⟨w.heap.size + 1, 0, none⟩ = some (.int .i64 b.next) ∧ w'.cell? ⟨w.heap.size + 1, 1, none⟩ = some (.slice B b.nodes.length d1))) 7 (by kernel_rfl) (by rw [hW0]; exact ⟨o0, o1, o2, o3⟩) (fun hHeld => ?_)
        rw [hW0] at hHeld ⊢
        have HS : Hid (∀ w', Below W0.heap.size W0 w' → (fun w' => w'.cell? ⟨w.heap.size, 0, none⟩ = some (.int .i64 a.next) ∧ w'.cell? ⟨w.heap.size, 1, none⟩ = some (.slice A a.nodes.length c) ∧ w'.cell? ⟨w.heap.size + 1, 0, none⟩ = some (.int .i64 b.next) ∧ w'.cell? ⟨w.heap.size + 1, 1, none⟩ = some (.slice B b.nodes.length d1)) w') := Lib.hid (fun w' hb => ⟨(hb.cell HA0.out).trans o0, (hb.cell HA0.out).trans o1, (hb.cell HA1.out).trans o2, (hb.cell HA1.out).trans o3⟩)
        have HLA' := Lib.hid (fun (w0 : World) (hb0 : Below W0.heap.size W0 w0) => HLA.out w0 (HW0.out.trans (hb0.mono (by rw [HWS.out]; exact Nat.le_refl _))))
        have HLB' := Lib.hid (fun (w0 : World) (hb0 : Below W0.heap.size W0 w0) => HLB.out w0 (HW0.out.trans (hb0.mono (by rw [HWS.out]; exact Nat.le_refl _))))
        clear HLA HLB hW0
        have HLA := HLA'; have HLB := HLB'
        clear HLA' HLB'
        have J0 := Lib.hid (JS.start W0 a b)
        refine wpAnyX_take (i := 0) (v := ?_) rfl (by kernel_rfl) (by kernel_rfl) (by kernel_rfl) (by kernel_rfl) (fun _ _ _ h => h) (Or.inl ⟨by rfl, ?_⟩) (by assumption) ?_
        rotate_left 1
        · (intro w' hSw; obtain ⟨s1, s2, s3, s4⟩ := hSw; go_simp); try with_reducible rfl
        try simp only [Act.put, List.setIfInBounds_toArray]
        refine wpAnyX_take (i := 2) (v := ?_) rfl (by kernel_rfl) (by kernel_rfl) (by kernel_rfl) (by kernel_rfl) (fun _ _ _ h => h) (Or.inl ⟨by rfl, ?_⟩) (by assumption) ?_
        rotate_left 1
        · (intro w' hSw; obtain ⟨s1, s2, s3, s4⟩ := hSw; go_simp); try with_reducible rfl
        try simp only [Act.put]
        refine wpAnyX_three (i := 1) (j := 4) (m := 5) rfl rfl rfl (by kernel_rfl) (fun K hK => ?_) (fun K hK => ?_) (fun K hK => ?_)
        · go_simp
          refine (HLA.out _ J0.out.below).mono ?_
          rintro _ wx ⟨_, rfl, ⟨_, rfl, Ax, cx, rfl, hmx⟩, hbx⟩
          have J1 := Lib.hid (J0.out.callx hbx ⟨_, rfl, Ax, cx, rfl, hmx⟩)
          clear hmx hbx
          go_simp
          refine hK.out _ _ (fun _ => HS.out _ J1.out.below) ?_
          clear hK K
          try simp only [Act.put, List.setIfInBounds_toArray, List.set_cons_zero, List.set_cons_succ, Nat.zero_add]
          refine wpAnyX_three (i := 3) (j := 4) (m := 5) rfl rfl rfl (by kernel_rfl) (fun K hK => ?_) (fun K hK => ?_) (fun K hK => ?_)
          · go_simp
            refine (HLB.out _ J1.out.below).mono ?_
            rintro _ wy ⟨_, rfl, ⟨_, rfl, Ay, cy, rfl, hmy⟩, hby⟩
            have J2 := Lib.hid (J1.out.cally hby ⟨_, rfl, Ay, cy, rfl, hmy⟩)
            clear hmy hby
            go_simp
            refine hK.out _ _ (fun _ => HS.out _ J2.out.below) ?_
            clear hK K
            try simp only [Act.put, List.setIfInBounds_toArray, List.set_cons_zero, List.set_cons_succ, Nat.zero_add]
            refine wpAnyX_two (i := 4) (j := 5) rfl rfl (by kernel_rfl) (fun K hK => ?_) (fun K hK => ?_)
            · go_simp
              obtain ⟨u3, hu3⟩ : ∃ u3 : World, wy.alloc (.cells #[.int .i64 0, .slice none 0 0] 24) = u3 := ⟨_, rfl⟩
              rw [hu3]
              have J3 : Hid (JS W0 u3 (some wy.heap.size) none (some (.agg #[.int .i64 a.next, .slice Ax a.nodes.length cx])) (some (.agg #[.int .i64 b.next, .slice Ay b.nodes.length cy])) a b) := Lib.hid (by rw [← hu3]; exact J2.out.alloc7)
              clear hu3
              refine hK.out _ _ (fun _ => HS.out _ J3.out.below) ?_
              clear hK K
              try simp only [Act.put, List.setIfInBounds_toArray, List.set_cons_zero, List.set_cons_succ, Nat.zero_add]
              refine wpAnyX_one (i := 5) rfl (by kernel_rfl) (fun K hK => ?_)
              go_simp
              obtain ⟨u4, hu4⟩ : ∃ u4 : World, u3.alloc (.cells #[.int .i64 0, .slice none 0 0] 24) = u4 := ⟨_, rfl⟩
              rw [hu4]
              have J4 : Hid (JS W0 u4 (some wy.heap.size) (some u3.heap.size) (some (.agg #[.int .i64 a.next, .slice Ax a.nodes.length cx])) (some (.agg #[.int .i64 b.next, .slice Ay b.nodes.length cy])) a b) := Lib.hid (by rw [← hu4]; exact J3.out.alloc8)
              clear hu4
              refine hK.out _ _ (fun _ => HS.out _ J4.out.below) ?_
              clear hK K
              try simp only [Act.put, List.setIfInBounds_toArray, List.set_cons_zero, List.set_cons_succ, Nat.zero_add]
              refine wpAnyX_one (i := 6) rfl (by kernel_rfl) (fun K hK => ?_)
              have f7 := J4.out.b7 _ rfl
              have f8 := J4.out.b8 _ rfl
              have e70 := f7.2.cell 0; have e71 := f7.2.cell 1; have z70 := f7.2.frozen 0; have z71 := f7.2.frozen 1
              have e80 := f8.2.cell 0; have e81 := f8.2.cell 1; have z80 := f8.2.frozen 0; have z81 := f8.2.frozen 1
              have hne := J4.out.ne _ _ rfl rfl
              have hne' := Ne.symm hne
              simp [zModel] at e70 e71 e80 e81
              clear f7 f8
              go_simp
              refine hK.out _ _ (fun _ => ⟨(Below.cell ((J4.out.below.setCell (p := ⟨_, 0, none⟩) (J4.out.b7 _ rfl).1 _).setCell (p := ⟨_, 1, none⟩) (J4.out.b7 _ rfl).1 _) HA0.out).trans o0, (Below.cell ((J4.out.below.setCell (p := ⟨_, 0, none⟩) (J4.out.b7 _ rfl).1 _).setCell (p := ⟨_, 1, none⟩) (J4.out.b7 _ rfl).1 _) HA0.out).trans o1, (Below.cell ((J4.out.below.setCell (p := ⟨_, 0, none⟩) (J4.out.b7 _ rfl).1 _).setCell (p := ⟨_, 1, none⟩) (J4.out.b7 _ rfl).1 _) HA1.out).trans o2, (Below.cell ((J4.out.below.setCell (p := ⟨_, 0, none⟩) (J4.out.b7 _ rfl).1 _).setCell (p := ⟨_, 1, none⟩) (J4.out.b7 _ rfl).1 _) HA1.out).trans o3⟩) ?_
              clear hK K
              try simp only [Act.put, List.setIfInBounds_toArray, List.set_cons_zero, List.set_cons_succ, Nat.zero_add]
              refine wpAnyX_one (i := 7) rfl (by kernel_rfl) (fun K hK => ?_)
              go_simp
              refine hK.out _ _ (fun h => absurd rfl h) ?_
              clear hK K
              try simp only [Act.put, List.setIfInBounds_toArray, List.set_cons_zero, List.set_cons_succ, Nat.zero_add]
              refine wpAnyX_done (by kernel_rfl) ?_ _
              have HD := Lib.hid J4.out.done
              go_wp2_with fail
              go_meet
              case rel => exact ⟨_, _, _, _, _, _, rfl, rfl, HW0.out.trans (HD.out.1.mono (by rw [HWS.out]; exact Nat.le_refl _)), HD.out.2.1, HD.out.2.2.1, ⟨_, HD.out.2.2.2.1.choose_spec.1, fun c hc => by simpa using HD.out.2.2.2.1.choose_spec.2 c hc⟩, ⟨_, HD.out.2.2.2.2.choose_spec.1, fun c hc => by simpa using HD.out.2.2.2.2.choose_spec.2 c hc⟩⟩
            · go_simp
              obtain ⟨u3, hu3⟩ : ∃ u3 : World, wy.alloc (.cells #[.int .i64 0, .slice none 0 0] 24) = u3 := ⟨_, rfl⟩
              rw [hu3]
              have J3 : Hid (JS W0 u3 none (some wy.heap.size) (some (.agg #[.int .i64 a.next, .slice Ax a.nodes.length cx])) (some (.agg #[.int .i64 b.next, .slice Ay b.nodes.length cy])) a b) := Lib.hid (by rw [← hu3]; exact J2.out.alloc8)
              clear hu3
              refine hK.out _ _ (fun _ => HS.out _ J3.out.below) ?_
              clear hK K
              try simp only [Act.put, List.setIfInBounds_toArray, List.set_cons_zero, List.set_cons_succ, Nat.zero_add]
              refine wpAnyX_one (i := 4) rfl (by kernel_rfl) (fun K hK => ?_)
              go_simp
              obtain ⟨u4, hu4⟩ : ∃ u4 : World, u3.alloc (.cells #[.int .i64 0, .slice none 0 0] 24) = u4 := ⟨_, rfl⟩
              rw [hu4]
              have J4 : Hid (JS W0 u4 (some u3.heap.size) (some wy.heap.size) (some (.agg #[.int .i64 a.next, .slice Ax a.nodes.length cx])) (some (.agg #[.int .i64 b.next, .slice Ay b.nodes.length cy])) a b) := Lib.hid (by rw [← hu4]; exact J3.out.alloc7)
              clear hu4
              refine hK.out _ _ (fun _ => HS.out _ J4.out.below) ?_
              clear hK K
              try simp only [Act.put, List.setIfInBounds_toArray, List.set_cons_zero, List.set_cons_succ, Nat.zero_add]
              refine wpAnyX_one (i := 6) rfl (by kernel_rfl) (fun K hK => ?_)
              have f7 := J4.out.b7 _ rfl
              have f8 := J4.out.b8 _ rfl
              have e70 := f7.2.cell 0; have e71 := f7.2.cell 1; have z70 := f7.2.frozen 0; have z71 := f7.2.frozen 1
              have e80 := f8.2.cell 0; have e81 := f8.2.cell 1; have z80 := f8.2.frozen 0; have z81 := f8.2.frozen 1
              have hne := J4.out.ne _ _ rfl rfl
              have hne' := Ne.symm hne
              simp [zModel] at e70 e71 e80 e81
              clear f7 f8
              go_simp
              refine hK.out _ _ (fun _ => ⟨(Below.cell ((J4.out.below.setCell (p := ⟨_, 0, none⟩) (J4.out.b7 _ rfl).1 _).setCell (p := ⟨_, 1, none⟩) (J4.out.b7 _ rfl).1 _) HA0.out).trans o0, (Below.cell ((J4.out.below.setCell (p := ⟨_, 0, none⟩) (J4.out.b7 _ rfl).1 _).setCell (p := ⟨_, 1, none⟩) (J4.out.b7 _ rfl).1 _) HA0.out).trans o1, (Below.cell ((J4.out.below.setCell (p := ⟨_, 0, none⟩) (J4.out.b7 _ rfl).1 _).setCell (p := ⟨_, 1, none⟩) (J4.out.b7 _ rfl).1 _) HA1.out).trans o2, (Below.cell ((J4.out.below.setCell (p := ⟨_, 0, none⟩) (J4.out.b7 _ rfl).1 _).setCell (p := ⟨_, 1, none⟩) (J4.out.b7 _ rfl).1 _) HA1.out).trans o3⟩) ?_
              clear hK K
              try simp only [Act.put, List.setIfInBounds_toArray, List.set_cons_zero, List.set_cons_succ, Nat.zero_add]
              refine wpAnyX_one (i := 7) rfl (by kernel_rfl) (fun K hK => ?_)
              go_simp
              refine hK.out _ _ (fun h => absurd rfl h) ?_
              clear hK K
              try simp only [Act.put, List.setIfInBounds_toArray, List.set_cons_zero, List.set_cons_succ, Nat.zero_add]
              refine wpAnyX_done (by kernel_rfl) ?_ _
              have HD := Lib.hid J4.out.done
              go_wp2_with fail
              go_meet
              case rel => exact ⟨_, _, _, _, _, _, rfl, rfl, HW0.out.trans (HD.out.1.mono (by rw [HWS.out]; exact Nat.le_refl _)), HD.out.2.1, HD.out.2.2.1, ⟨_, HD.out.2.2.2.1.choose_spec.1, fun c hc => by simpa using HD.out.2.2.2.1.choose_spec.2 c hc⟩, ⟨_, HD.out.2.2.2.2.choose_spec.1, fun c hc => by simpa using HD.out.2.2.2.2.choose_spec.2 c hc⟩⟩
          · go_simp
            obtain ⟨u2, hu2⟩ : ∃ u2 : World, wx.alloc (.cells #[.int .i64 0, .slice none 0 0] 24) = u2 := ⟨_, rfl⟩
            rw [hu2]
            have J2 : Hid (JS W0 u2 (some wx.heap.size) none (some (.agg #[.int .i64 a.next, .slice Ax a.nodes.length cx])) none a b) := Lib.hid (by rw [← hu2]; exact J1.out.alloc7)
            clear hu2
            refine hK.out _ _ (fun _ => HS.out _ J2.out.below) ?_
            clear hK K
            try simp only [Act.put, List.setIfInBounds_toArray, List.set_cons_zero, List.set_cons_succ, Nat.zero_add]
            refine wpAnyX_two (i := 3) (j := 5) rfl rfl (by kernel_rfl) (fun K hK => ?_) (fun K hK => ?_)
            · go_simp
              refine (HLB.out _ J2.out.below).mono ?_
              rintro _ wy ⟨_, rfl, ⟨_, rfl, Ay, cy, rfl, hmy⟩, hby⟩
              have J3 := Lib.hid (J2.out.cally hby ⟨_, rfl, Ay, cy, rfl, hmy⟩)
              clear hmy hby
              go_simp
              refine hK.out _ _ (fun _ => HS.out _ J3.out.below) ?_
              clear hK K
              try simp only [Act.put, List.setIfInBounds_toArray, List.set_cons_zero, List.set_cons_succ, Nat.zero_add]
              refine wpAnyX_one (i := 5) rfl (by kernel_rfl) (fun K hK => ?_)
              go_simp
              obtain ⟨u4, hu4⟩ : ∃ u4 : World, wy.alloc (.cells #[.int .i64 0, .slice none 0 0] 24) = u4 := ⟨_, rfl⟩
              rw [hu4]
              have J4 : Hid (JS W0 u4 (some wx.heap.size) (some wy.heap.size) (some (.agg #[.int .i64 a.next, .slice Ax a.nodes.length cx])) (some (.agg #[.int .i64 b.next, .slice Ay b.nodes.length cy])) a b) := Lib.hid (by rw [← hu4]; exact J3.out.alloc8)
              clear hu4
              refine hK.out _ _ (fun _ => HS.out _ J4.out.below) ?_
              clear hK K
              try simp only [Act.put, List.setIfInBounds_toArray, List.set_cons_zero, List.set_cons_succ, Nat.zero_add]
              refine wpAnyX_one (i := 6) rfl (by kernel_rfl) (fun K hK => ?_)
              have f7 := J4.out.b7 _ rfl
              have f8 := J4.out.b8 _ rfl
              have e70 := f7.2.cell 0; have e71 := f7.2.cell 1; have z70 := f7.2.frozen 0; have z71 := f7.2.frozen 1
              have e80 := f8.2.cell 0; have e81 := f8.2.cell 1; have z80 := f8.2.frozen 0; have z81 := f8.2.frozen 1
              have hne := J4.out.ne _ _ rfl rfl
              have hne' := Ne.symm hne
              simp [zModel] at e70 e71 e80 e81
              clear f7 f8
              go_simp
              refine hK.out _ _ (fun _ => ⟨(Below.cell ((J4.out.below.setCell (p := ⟨_, 0, none⟩) (J4.out.b7 _ rfl).1 _).setCell (p := ⟨_, 1, none⟩) (J4.out.b7 _ rfl).1 _) HA0.out).trans o0, (Below.cell ((J4.out.below.setCell (p := ⟨_, 0, none⟩) (J4.out.b7 _ rfl).1 _).setCell (p := ⟨_, 1, none⟩) (J4.out.b7 _ rfl).1 _) HA0.out).trans o1, (Below.cell ((J4.out.below.setCell (p := ⟨_, 0, none⟩) (J4.out.b7 _ rfl).1 _).setCell (p := ⟨_, 1, none⟩) (J4.out.b7 _ rfl).1 _) HA1.out).trans o2, (Below.cell ((J4.out.below.setCell (p := ⟨_, 0, none⟩) (J4.out.b7 _ rfl).1 _).setCell (p := ⟨_, 1, none⟩) (J4.out.b7 _ rfl).1 _) HA1.out).trans o3⟩) ?_
              clear hK K
              try simp only [Act.put, List.setIfInBounds_toArray, List.set_cons_zero, List.set_cons_succ, Nat.zero_add]
              refine wpAnyX_one (i := 7) rfl (by kernel_rfl) (fun K hK => ?_)
              go_simp
              refine hK.out _ _ (fun h => absurd rfl h) ?_
              clear hK K
              try simp only [Act.put, List.setIfInBounds_toArray, List.set_cons_zero, List.set_cons_succ, Nat.zero_add]
              refine wpAnyX_done (by kernel_rfl) ?_ _
              have HD := Lib.hid J4.out.done
              go_wp2_with fail
              go_meet
              case rel => exact ⟨_, _, _, _, _, _, rfl, rfl, HW0.out.trans (HD.out.1.mono (by rw [HWS.out]; exact Nat.le_refl _)), HD.out.2.1, HD.out.2.2.1, ⟨_, HD.out.2.2.2.1.choose_spec.1, fun c hc => by simpa using HD.out.2.2.2.1.choose_spec.2 c hc⟩, ⟨_, HD.out.2.2.2.2.choose_spec.1, fun c hc => by simpa using HD.out.2.2.2.2.choose_spec.2 c hc⟩⟩
            · go_simp
              obtain ⟨u3, hu3⟩ : ∃ u3 : World, u2.alloc (.cells #[.int .i64 0, .slice none 0 0] 24) = u3 := ⟨_, rfl⟩
              rw [hu3]
              have J3 : Hid (JS W0 u3 (some wx.heap.size) (some u2.heap.size) (some (.agg #[.int .i64 a.next, .slice Ax a.nodes.length cx])) none a b) := Lib.hid (by rw [← hu3]; exact J2.out.alloc8)
              clear hu3
              refine hK.out _ _ (fun _ => HS.out _ J3.out.below) ?_
              clear hK K
              try simp only [Act.put, List.setIfInBounds_toArray, List.set_cons_zero, List.set_cons_succ, Nat.zero_add]
              refine wpAnyX_one (i := 3) rfl (by kernel_rfl) (fun K hK => ?_)
              go_simp
              refine (HLB.out _ J3.out.below).mono ?_
              rintro _ wy ⟨_, rfl, ⟨_, rfl, Ay, cy, rfl, hmy⟩, hby⟩
              have J4 := Lib.hid (J3.out.cally hby ⟨_, rfl, Ay, cy, rfl, hmy⟩)
              clear hmy hby
              go_simp
              refine hK.out _ _ (fun _ => HS.out _ J4.out.below) ?_
              clear hK K
              try simp only [Act.put, List.setIfInBounds_toArray, List.set_cons_zero, List.set_cons_succ, Nat.zero_add]
              refine wpAnyX_one (i := 6) rfl (by kernel_rfl) (fun K hK => ?_)
              have f7 := J4.out.b7 _ rfl
              have f8 := J4.out.b8 _ rfl
              have e70 := f7.2.cell 0; have e71 := f7.2.cell 1; have z70 := f7.2.frozen 0; have z71 := f7.2.frozen 1
              have e80 := f8.2.cell 0; have e81 := f8.2.cell 1; have z80 := f8.2.frozen 0; have z81 := f8.2.frozen 1
              have hne := J4.out.ne _ _ rfl rfl
              have hne' := Ne.symm hne
              simp [zModel] at e70 e71 e80 e81
              clear f7 f8
              go_simp
              refine hK.out _ _ (fun _ => ⟨(Below.cell ((J4.out.below.setCell (p := ⟨_, 0, none⟩) (J4.out.b7 _ rfl).1 _).setCell (p := ⟨_, 1, none⟩) (J4.out.b7 _ rfl).1 _) HA0.out).trans o0, (Below.cell ((J4.out.below.setCell (p := ⟨_, 0, none⟩) (J4.out.b7 _ rfl).1 _).setCell (p := ⟨_, 1, none⟩) (J4.out.b7 _ rfl).1 _) HA0.out).trans o1, (Below.cell ((J4.out.below.setCell (p := ⟨_, 0, none⟩) (J4.out.b7 _ rfl).1 _).setCell (p := ⟨_, 1, none⟩) (J4.out.b7 _ rfl).1 _) HA1.out).trans o2, (Below.cell ((J4.out.below.setCell (p := ⟨_, 0, none⟩) (J4.out.b7 _ rfl).1 _).setCell (p := ⟨_, 1, none⟩) (J4.out.b7 _ rfl).1 _) HA1.out).trans o3⟩) ?_
              clear hK K
              try simp only [Act.put, List.setIfInBounds_toArray, List.set_cons_zero, List.set_cons_succ, Nat.zero_add]
              refine wpAnyX_one (i := 7) rfl (by kernel_rfl) (fun K hK => ?_)
              go_simp
              refine hK.out _ _ (fun h => absurd rfl h) ?_
              clear hK K
              try simp only [Act.put, List.setIfInBounds_toArray, List.set_cons_zero, List.set_cons_succ, Nat.zero_add]
              refine wpAnyX_done (by kernel_rfl) ?_ _
              have HD := Lib.hid J4.out.done
              go_wp2_with fail
              go_meet
              case rel => exact ⟨_, _, _, _, _, _, rfl, rfl, HW0.out.trans (HD.out.1.mono (by rw [HWS.out]; exact Nat.le_refl _)), HD.out.2.1, HD.out.2.2.1, ⟨_, HD.out.2.2.2.1.choose_spec.1, fun c hc => by simpa using HD.out.2.2.2.1.choose_spec.2 c hc⟩, ⟨_, HD.out.2.2.2.2.choose_spec.1, fun c hc => by simpa using HD.out.2.2.2.2.choose_spec.2 c hc⟩⟩
          · go_simp
            obtain ⟨u2, hu2⟩ : ∃ u2 : World, wx.alloc (.cells #[.int .i64 0, .slice none 0 0] 24) = u2 := ⟨_, rfl⟩
            rw [hu2]
            have J2 : Hid (JS W0 u2 none (some wx.heap.size) (some (.agg #[.int .i64 a.next, .slice Ax a.nodes.length cx])) none a b) := Lib.hid (by rw [← hu2]; exact J1.out.alloc8)
            clear hu2
            refine hK.out _ _ (fun _ => HS.out _ J2.out.below) ?_
            clear hK K
            try simp only [Act.put, List.setIfInBounds_toArray, List.set_cons_zero, List.set_cons_succ, Nat.zero_add]
            refine wpAnyX_two (i := 3) (j := 4) rfl rfl (by kernel_rfl) (fun K hK => ?_) (fun K hK => ?_)
            · go_simp
              refine (HLB.out _ J2.out.below).mono ?_
              rintro _ wy ⟨_, rfl, ⟨_, rfl, Ay, cy, rfl, hmy⟩, hby⟩
              have J3 := Lib.hid (J2.out.cally hby ⟨_, rfl, Ay, cy, rfl, hmy⟩)
              clear hmy hby
              go_simp
              refine hK.out _ _ (fun _ => HS.out _ J3.out.below) ?_
              clear hK K
              try simp only [Act.put, List.setIfInBounds_toArray, List.set_cons_zero, List.set_cons_succ, Nat.zero_add]
              refine wpAnyX_one (i := 4) rfl (by kernel_rfl) (fun K hK => ?_)
              go_simp
              obtain ⟨u4, hu4⟩ : ∃ u4 : World, wy.alloc (.cells #[.int .i64 0, .slice none 0 0] 24) = u4 := ⟨_, rfl⟩
              rw [hu4]
              have J4 : Hid (JS W0 u4 (some wy.heap.size) (some wx.heap.size) (some (.agg #[.int .i64 a.next, .slice Ax a.nodes.length cx])) (some (.agg #[.int .i64 b.next, .slice Ay b.nodes.length cy])) a b) := Lib.hid (by rw [← hu4]; exact J3.out.alloc7)
              clear hu4
              refine hK.out _ _ (fun _ => HS.out _ J4.out.below) ?_
              clear hK K
              try simp only [Act.put, List.setIfInBounds_toArray, List.set_cons_zero, List.set_cons_succ, Nat.zero_add]
              refine wpAnyX_one (i := 6) rfl (by kernel_rfl) (fun K hK => ?_)
              have f7 := J4.out.b7 _ rfl
              have f8 := J4.out.b8 _ rfl
              have e70 := f7.2.cell 0; have e71 := f7.2.cell 1; have z70 := f7.2.frozen 0; have z71 := f7.2.frozen 1
              have e80 := f8.2.cell 0; have e81 := f8.2.cell 1; have z80 := f8.2.frozen 0; have z81 := f8.2.frozen 1
              have hne := J4.out.ne _ _ rfl rfl
              have hne' := Ne.symm hne
              simp [zModel] at e70 e71 e80 e81
              clear f7 f8
              go_simp
              refine hK.out _ _ (fun _ => ⟨(Below.cell ((J4.out.below.setCell (p := ⟨_, 0, none⟩) (J4.out.b7 _ rfl).1 _).setCell (p := ⟨_, 1, none⟩) (J4.out.b7 _ rfl).1 _) HA0.out).trans o0, (Below.cell ((J4.out.below.setCell (p := ⟨_, 0, none⟩) (J4.out.b7 _ rfl).1 _).setCell (p := ⟨_, 1, none⟩) (J4.out.b7 _ rfl).1 _) HA0.out).trans o1, (Below.cell ((J4.out.below.setCell (p := ⟨_, 0, none⟩) (J4.out.b7 _ rfl).1 _).setCell (p := ⟨_, 1, none⟩) (J4.out.b7 _ rfl).1 _) HA1.out).trans o2, (Below.cell ((J4.out.below.setCell (p := ⟨_, 0, none⟩) (J4.out.b7 _ rfl).1 _).setCell (p := ⟨_, 1, none⟩) (J4.out.b7 _ rfl).1 _) HA1.out).trans o3⟩) ?_
              clear hK K
              try simp only [Act.put, List.setIfInBounds_toArray, List.set_cons_zero, List.set_cons_succ, Nat.zero_add]
              refine wpAnyX_one (i := 7) rfl (by kernel_rfl) (fun K hK => ?_)
              go_simp
              refine hK.out _ _ (fun h => absurd rfl h) ?_
              clear hK K
              try simp only [Act.put, List.setIfInBounds_toArray, List.set_cons_zero, List.set_cons_succ, Nat.zero_add]
              refine wpAnyX_done (by kernel_rfl) ?_ _
              have HD := Lib.hid J4.out.done
              go_wp2_with fail
              go_meet
              case rel => exact ⟨_, _, _, _, _, _, rfl, rfl, HW0.out.trans (HD.out.1.mono (by rw [HWS.out]; exact Nat.le_refl _)), HD.out.2.1, HD.out.2.2.1, ⟨_, HD.out.2.2.2.1.choose_spec.1, fun c hc => by simpa using HD.out.2.2.2.1.choose_spec.2 c hc⟩, ⟨_, HD.out.2.2.2.2.choose_spec.1, fun c hc => by simpa using HD.out.2.2.2.2.choose_spec.2 c hc⟩⟩
            · go_simp
              obtain ⟨u3, hu3⟩ : ∃ u3 : World, u2.alloc (.cells #[.int .i64 0, .slice none 0 0] 24) = u3 := ⟨_, rfl⟩
              rw [hu3]
              have J3 : Hid (JS W0 u3 (some u2.heap.size) (some wx.heap.size) (some (.agg #[.int .i64 a.next, .slice Ax a.nodes.length cx])) none a b) := Lib.hid (by rw [← hu3]; exact J2.out.alloc7)
              clear hu3
              refine hK.out _ _ (fun _ => HS.out _ J3.out.below) ?_
              clear hK K
              try simp only [Act.put, List.setIfInBounds_toArray, List.set_cons_zero, List.set_cons_succ, Nat.zero_add]
              refine wpAnyX_one (i := 3) rfl (by kernel_rfl) (fun K hK => ?_)
              go_simp
              refine (HLB.out _ J3.out.below).mono ?_
              rintro _ wy ⟨_, rfl, ⟨_, rfl, Ay, cy, rfl, hmy⟩, hby⟩
              have J4 := Lib.hid (J3.out.cally hby ⟨_, rfl, Ay, cy, rfl, hmy⟩)
              clear hmy hby
              go_simp
              refine hK.out _ _ (fun _ => HS.out _ J4.out.below) ?_
              clear hK K
              try simp only [Act.put, List.setIfInBounds_toArray, List.set_cons_zero, List.set_cons_succ, Nat.zero_add]
              refine wpAnyX_one (i := 6) rfl (by kernel_rfl) (fun K hK => ?_)
              have f7 := J4.out.b7 _ rfl
              have f8 := J4.out.b8 _ rfl
              have e70 := f7.2.cell 0; have e71 := f7.2.cell 1; have z70 := f7.2.frozen 0; have z71 := f7.2.frozen 1
              have e80 := f8.2.cell 0; have e81 := f8.2.cell 1; have z80 := f8.2.frozen 0; have z81 := f8.2.frozen 1
              have hne := J4.out.ne _ _ rfl rfl
              have hne' := Ne.symm hne
              simp [zModel] at e70 e71 e80 e81
              clear f7 f8
              go_simp
              refine hK.out _ _ (fun _ => ⟨(Below.cell ((J4.out.below.setCell (p := ⟨_, 0, none⟩) (J4.out.b7 _ rfl).1 _).setCell (p := ⟨_, 1, none⟩) (J4.out.b7 _ rfl).1 _) HA0.out).trans o0, (Below.cell ((J4.out.below.setCell (p := ⟨_, 0, none⟩) (J4.out.b7 _ rfl).1 _).setCell (p := ⟨_, 1, none⟩) (J4.out.b7 _ rfl).1 _) HA0.out).trans o1, (Below.cell ((J4.out.below.setCell (p := ⟨_, 0, none⟩) (J4.out.b7 _ rfl).1 _).setCell (p := ⟨_, 1, none⟩) (J4.out.b7 _ rfl).1 _) HA1.out).trans o2, (Below.cell ((J4.out.below.setCell (p := ⟨_, 0, none⟩) (J4.out.b7 _ rfl).1 _).setCell (p := ⟨_, 1, none⟩) (J4.out.b7 _ rfl).1 _) HA1.out).trans o3⟩) ?_
              clear hK K
              try simp only [Act.put, List.setIfInBounds_toArray, List.set_cons_zero, List.set_cons_succ, Nat.zero_add]
              refine wpAnyX_one (i := 7) rfl (by kernel_rfl) (fun K hK => ?_)
              go_simp
              refine hK.out _ _ (fun h => absurd rfl h) ?_
              clear hK K
              try simp only [Act.put, List.setIfInBounds_toArray, List.set_cons_zero, List.set_cons_succ, Nat.zero_add]
              refine wpAnyX_done (by kernel_rfl) ?_ _
              have HD := Lib.hid J4.out.done
              go_wp2_with fail
              go_meet
              case rel => exact ⟨_, _, _, _, _, _, rfl, rfl, HW0.out.trans (HD.out.1.mono (by rw [HWS.out]; exact Nat.le_refl _)), HD.out.2.1, HD.out.2.2.1, ⟨_, HD.out.2.2.2.1.choose_spec.1, fun c hc => by simpa using HD.out.2.2.2.1.choose_spec.2 c hc⟩, ⟨_, HD.out.2.2.2.2.choose_spec.1, fun c hc => by simpa using HD.out.2.2.2.2.choose_spec.2 c hc⟩⟩
        · go_simp
          obtain ⟨u1, hu1⟩ : ∃ u1 : World, W0.alloc (.cells #[.int .i64 0, .slice none 0 0] 24) = u1 := ⟨_, rfl⟩
          rw [hu1]
          have J1 : Hid (JS W0 u1 (some W0.heap.size) none none none a b) := Lib.hid (by rw [← hu1]; exact J0.out.alloc7)
          clear hu1
          refine hK.out _ _ (fun _ => HS.out _ J1.out.below) ?_
          clear hK K
          try simp only [Act.put, List.setIfInBounds_toArray, List.set_cons_zero, List.set_cons_succ, Nat.zero_add]
          refine wpAnyX_two (i := 1) (j := 5) rfl rfl (by kernel_rfl) (fun K hK => ?_) (fun K hK => ?_)
          · go_simp
            refine (HLA.out _ J1.out.below).mono ?_
            rintro _ wx ⟨_, rfl, ⟨_, rfl, Ax, cx, rfl, hmx⟩, hbx⟩
            have J2 := Lib.hid (J1.out.callx hbx ⟨_, rfl, Ax, cx, rfl, hmx⟩)
            clear hmx hbx
            go_simp
            refine hK.out _ _ (fun _ => HS.out _ J2.out.below) ?_
            clear hK K
            try simp only [Act.put, List.setIfInBounds_toArray, List.set_cons_zero, List.set_cons_succ, Nat.zero_add]
            refine wpAnyX_two (i := 3) (j := 5) rfl rfl (by kernel_rfl) (fun K hK => ?_) (fun K hK => ?_)
            · go_simp
              refine (HLB.out _ J2.out.below).mono ?_
              rintro _ wy ⟨_, rfl, ⟨_, rfl, Ay, cy, rfl, hmy⟩, hby⟩
              have J3 := Lib.hid (J2.out.cally hby ⟨_, rfl, Ay, cy, rfl, hmy⟩)
              clear hmy hby
              go_simp
              refine hK.out _ _ (fun _ => HS.out _ J3.out.below) ?_
              clear hK K
              try simp only [Act.put, List.setIfInBounds_toArray, List.set_cons_zero, List.set_cons_succ, Nat.zero_add]
              refine wpAnyX_one (i := 5) rfl (by kernel_rfl) (fun K hK => ?_)
              go_simp
              obtain ⟨u4, hu4⟩ : ∃ u4 : World, wy.alloc (.cells #[.int .i64 0, .slice none 0 0] 24) = u4 := ⟨_, rfl⟩
              rw [hu4]
              have J4 : Hid (JS W0 u4 (some W0.heap.size) (some wy.heap.size) (some (.agg #[.int .i64 a.next, .slice Ax a.nodes.length cx])) (some (.agg #[.int .i64 b.next, .slice Ay b.nodes.length cy])) a b) := Lib.hid (by rw [← hu4]; exact J3.out.alloc8)
              clear hu4
              refine hK.out _ _ (fun _ => HS.out _ J4.out.below) ?_
              clear hK K
              try simp only [Act.put, List.setIfInBounds_toArray, List.set_cons_zero, List.set_cons_succ, Nat.zero_add]
              refine wpAnyX_one (i := 6) rfl (by kernel_rfl) (fun K hK => ?_)
              have f7 := J4.out.b7 _ rfl
              have f8 := J4.out.b8 _ rfl
              have e70 := f7.2.cell 0; have e71 := f7.2.cell 1; have z70 := f7.2.frozen 0; have z71 := f7.2.frozen 1
              have e80 := f8.2.cell 0; have e81 := f8.2.cell 1; have z80 := f8.2.frozen 0; have z81 := f8.2.frozen 1
              have hne := J4.out.ne _ _ rfl rfl
              have hne' := Ne.symm hne
              simp [zModel] at e70 e71 e80 e81
              clear f7 f8
              go_simp
              refine hK.out _ _ (fun _ => ⟨(Below.cell ((J4.out.below.setCell (p := ⟨_, 0, none⟩) (J4.out.b7 _ rfl).1 _).setCell (p := ⟨_, 1, none⟩) (J4.out.b7 _ rfl).1 _) HA0.out).trans o0, (Below.cell ((J4.out.below.setCell (p := ⟨_, 0, none⟩) (J4.out.b7 _ rfl).1 _).setCell (p := ⟨_, 1, none⟩) (J4.out.b7 _ rfl).1 _) HA0.out).trans o1, (Below.cell ((J4.out.below.setCell (p := ⟨_, 0, none⟩) (J4.out.b7 _ rfl).1 _).setCell (p := ⟨_, 1, none⟩) (J4.out.b7 _ rfl).1 _) HA1.out).trans o2, (Below.cell ((J4.out.below.setCell (p := ⟨_, 0, none⟩) (J4.out.b7 _ rfl).1 _).setCell (p := ⟨_, 1, none⟩) (J4.out.b7 _ rfl).1 _) HA1.out).trans o3⟩) ?_
              clear hK K
              try simp only [Act.put, List.setIfInBounds_toArray, List.set_cons_zero, List.set_cons_succ, Nat.zero_add]
              refine wpAnyX_one (i := 7) rfl (by kernel_rfl) (fun K hK => ?_)
              go_simp
              refine hK.out _ _ (fun h => absurd rfl h) ?_
              clear hK K
              try simp only [Act.put, List.setIfInBounds_toArray, List.set_cons_zero, List.set_cons_succ, Nat.zero_add]
              refine wpAnyX_done (by kernel_rfl) ?_ _
              have HD := Lib.hid J4.out.done
              go_wp2_with fail
              go_meet
              case rel => exact ⟨_, _, _, _, _, _, rfl, rfl, HW0.out.trans (HD.out.1.mono (by rw [HWS.out]; exact Nat.le_refl _)), HD.out.2.1, HD.out.2.2.1, ⟨_, HD.out.2.2.2.1.choose_spec.1, fun c hc => by simpa using HD.out.2.2.2.1.choose_spec.2 c hc⟩, ⟨_, HD.out.2.2.2.2.choose_spec.1, fun c hc => by simpa using HD.out.2.2.2.2.choose_spec.2 c hc⟩⟩
            · go_simp
              obtain ⟨u3, hu3⟩ : ∃ u3 : World, wx.alloc (.cells #[.int .i64 0, .slice none 0 0] 24) = u3 := ⟨_, rfl⟩
              rw [hu3]
              have J3 : Hid (JS W0 u3 (some W0.heap.size) (some wx.heap.size) (some (.agg #[.int .i64 a.next, .slice Ax a.nodes.length cx])) none a b) := Lib.hid (by rw [← hu3]; exact J2.out.alloc8)
              clear hu3
              refine hK.out _ _ (fun _ => HS.out _ J3.out.below) ?_
              clear hK K
              try simp only [Act.put, List.setIfInBounds_toArray, List.set_cons_zero, List.set_cons_succ, Nat.zero_add]
              refine wpAnyX_one (i := 3) rfl (by kernel_rfl) (fun K hK => ?_)
              go_simp
              refine (HLB.out _ J3.out.below).mono ?_
              rintro _ wy ⟨_, rfl, ⟨_, rfl, Ay, cy, rfl, hmy⟩, hby⟩
              have J4 := Lib.hid (J3.out.cally hby ⟨_, rfl, Ay, cy, rfl, hmy⟩)
              clear hmy hby
              go_simp
              refine hK.out _ _ (fun _ => HS.out _ J4.out.below) ?_
              clear hK K
              try simp only [Act.put, List.setIfInBounds_toArray, List.set_cons_zero, List.set_cons_succ, Nat.zero_add]
              refine wpAnyX_one (i := 6) rfl (by kernel_rfl) (fun K hK => ?_)
              have f7 := J4.out.b7 _ rfl
              have f8 := J4.out.b8 _ rfl
              have e70 := f7.2.cell 0; have e71 := f7.2.cell 1; have z70 := f7.2.frozen 0; have z71 := f7.2.frozen 1
              have e80 := f8.2.cell 0; have e81 := f8.2.cell 1; have z80 := f8.2.frozen 0; have z81 := f8.2.frozen 1
              have hne := J4.out.ne _ _ rfl rfl
              have hne' := Ne.symm hne
              simp [zModel] at e70 e71 e80 e81
              clear f7 f8
              go_simp
              refine hK.out _ _ (fun _ => ⟨(Below.cell ((J4.out.below.setCell (p := ⟨_, 0, none⟩) (J4.out.b7 _ rfl).1 _).setCell (p := ⟨_, 1, none⟩) (J4.out.b7 _ rfl).1 _) HA0.out).trans o0, (Below.cell ((J4.out.below.setCell (p := ⟨_, 0, none⟩) (J4.out.b7 _ rfl).1 _).setCell (p := ⟨_, 1, none⟩) (J4.out.b7 _ rfl).1 _) HA0.out).trans o1, (Below.cell ((J4.out.below.setCell (p := ⟨_, 0, none⟩) (J4.out.b7 _ rfl).1 _).setCell (p := ⟨_, 1, none⟩) (J4.out.b7 _ rfl).1 _) HA1.out).trans o2, (Below.cell ((J4.out.below.setCell (p := ⟨_, 0, none⟩) (J4.out.b7 _ rfl).1 _).setCell (p := ⟨_, 1, none⟩) (J4.out.b7 _ rfl).1 _) HA1.out).trans o3⟩) ?_
              clear hK K
              try simp only [Act.put, List.setIfInBounds_toArray, List.set_cons_zero, List.set_cons_succ, Nat.zero_add]
              refine wpAnyX_one (i := 7) rfl (by kernel_rfl) (fun K hK => ?_)
              go_simp
              refine hK.out _ _ (fun h => absurd rfl h) ?_
              clear hK K
              try simp only [Act.put, List.setIfInBounds_toArray, List.set_cons_zero, List.set_cons_succ, Nat.zero_add]
              refine wpAnyX_done (by kernel_rfl) ?_ _
              have HD := Lib.hid J4.out.done
              go_wp2_with fail
              go_meet
              case rel => exact ⟨_, _, _, _, _, _, rfl, rfl, HW0.out.trans (HD.out.1.mono (by rw [HWS.out]; exact Nat.le_refl _)), HD.out.2.1, HD.out.2.2.1, ⟨_, HD.out.2.2.2.1.choose_spec.1, fun c hc => by simpa using HD.out.2.2.2.1.choose_spec.2 c hc⟩, ⟨_, HD.out.2.2.2.2.choose_spec.1, fun c hc => by simpa using HD.out.2.2.2.2.choose_spec.2 c hc⟩⟩
          · go_simp
            obtain ⟨u2, hu2⟩ : ∃ u2 : World, u1.alloc (.cells #[.int .i64 0, .slice none 0 0] 24) = u2 := ⟨_, rfl⟩
            rw [hu2]
            have J2 : Hid (JS W0 u2 (some W0.heap.size) (some u1.heap.size) none none a b) := Lib.hid (by rw [← hu2]; exact J1.out.alloc8)
            clear hu2
            refine hK.out _ _ (fun _ => HS.out _ J2.out.below) ?_
            clear hK K
            try simp only [Act.put, List.setIfInBounds_toArray, List.set_cons_zero, List.set_cons_succ, Nat.zero_add]
            refine wpAnyX_one (i := 1) rfl (by kernel_rfl) (fun K hK => ?_)
            go_simp
            refine (HLA.out _ J2.out.below).mono ?_
            rintro _ wx ⟨_, rfl, ⟨_, rfl, Ax, cx, rfl, hmx⟩, hbx⟩
            have J3 := Lib.hid (J2.out.callx hbx ⟨_, rfl, Ax, cx, rfl, hmx⟩)
            clear hmx hbx
            go_simp
            refine hK.out _ _ (fun _ => HS.out _ J3.out.below) ?_
            clear hK K
            try simp only [Act.put, List.setIfInBounds_toArray, List.set_cons_zero, List.set_cons_succ, Nat.zero_add]
            refine wpAnyX_one (i := 3) rfl (by kernel_rfl) (fun K hK => ?_)
            go_simp
            refine (HLB.out _ J3.out.below).mono ?_
            rintro _ wy ⟨_, rfl, ⟨_, rfl, Ay, cy, rfl, hmy⟩, hby⟩
            have J4 := Lib.hid (J3.out.cally hby ⟨_, rfl, Ay, cy, rfl, hmy⟩)
            clear hmy hby
            go_simp
            refine hK.out _ _ (fun _ => HS.out _ J4.out.below) ?_
            clear hK K
            try simp only [Act.put, List.setIfInBounds_toArray, List.set_cons_zero, List.set_cons_succ, Nat.zero_add]
            refine wpAnyX_one (i := 6) rfl (by kernel_rfl) (fun K hK => ?_)
            have f7 := J4.out.b7 _ rfl
            have f8 := J4.out.b8 _ rfl
            have e70 := f7.2.cell 0; have e71 := f7.2.cell 1; have z70 := f7.2.frozen 0; have z71 := f7.2.frozen 1
            have e80 := f8.2.cell 0; have e81 := f8.2.cell 1; have z80 := f8.2.frozen 0; have z81 := f8.2.frozen 1
            have hne := J4.out.ne _ _ rfl rfl
            have hne' := Ne.symm hne
            simp [zModel] at e70 e71 e80 e81
            clear f7 f8
            go_simp
            refine hK.out _ _ (fun _ => ⟨(Below.cell ((J4.out.below.setCell (p := ⟨_, 0, none⟩) (J4.out.b7 _ rfl).1 _).setCell (p := ⟨_, 1, none⟩) (J4.out.b7 _ rfl).1 _) HA0.out).trans o0, (Below.cell ((J4.out.below.setCell (p := ⟨_, 0, none⟩) (J4.out.b7 _ rfl).1 _).setCell (p := ⟨_, 1, none⟩) (J4.out.b7 _ rfl).1 _) HA0.out).trans o1, (Below.cell ((J4.out.below.setCell (p := ⟨_, 0, none⟩) (J4.out.b7 _ rfl).1 _).setCell (p := ⟨_, 1, none⟩) (J4.out.b7 _ rfl).1 _) HA1.out).trans o2, (Below.cell ((J4.out.below.setCell (p := ⟨_, 0, none⟩) (J4.out.b7 _ rfl).1 _).setCell (p := ⟨_, 1, none⟩) (J4.out.b7 _ rfl).1 _) HA1.out).trans o3⟩) ?_
            clear hK K
            try simp only [Act.put, List.setIfInBounds_toArray, List.set_cons_zero, List.set_cons_succ, Nat.zero_add]
            refine wpAnyX_one (i := 7) rfl (by kernel_rfl) (fun K hK => ?_)
            go_simp
            refine hK.out _ _ (fun h => absurd rfl h) ?_
            clear hK K
            try simp only [Act.put, List.setIfInBounds_toArray, List.set_cons_zero, List.set_cons_succ, Nat.zero_add]
            refine wpAnyX_done (by kernel_rfl) ?_ _
            have HD := Lib.hid J4.out.done
            go_wp2_with fail
            go_meet
            case rel => exact ⟨_, _, _, _, _, _, rfl, rfl, HW0.out.trans (HD.out.1.mono (by rw [HWS.out]; exact Nat.le_refl _)), HD.out.2.1, HD.out.2.2.1, ⟨_, HD.out.2.2.2.1.choose_spec.1, fun c hc => by simpa using HD.out.2.2.2.1.choose_spec.2 c hc⟩, ⟨_, HD.out.2.2.2.2.choose_spec.1, fun c hc => by simpa using HD.out.2.2.2.2.choose_spec.2 c hc⟩⟩
        · go_simp
          obtain ⟨u1, hu1⟩ : ∃ u1 : World, W0.alloc (.cells #[.int .i64 0, .slice none 0 0] 24) = u1 := ⟨_, rfl⟩
          rw [hu1]
          have J1 : Hid (JS W0 u1 none (some W0.heap.size) none none a b) := Lib.hid (by rw [← hu1]; exact J0.out.alloc8)
          clear hu1
          refine hK.out _ _ (fun _ => HS.out _ J1.out.below) ?_
          clear hK K
          try simp only [Act.put, List.setIfInBounds_toArray, List.set_cons_zero, List.set_cons_succ, Nat.zero_add]
          refine wpAnyX_two (i := 1) (j := 4) rfl rfl (by kernel_rfl) (fun K hK => ?_) (fun K hK => ?_)
          · go_simp
            refine (HLA.out _ J1.out.below).mono ?_
            rintro _ wx ⟨_, rfl, ⟨_, rfl, Ax, cx, rfl, hmx⟩, hbx⟩
            have J2 := Lib.hid (J1.out.callx hbx ⟨_, rfl, Ax, cx, rfl, hmx⟩)
            clear hmx hbx
            go_simp
            refine hK.out _ _ (fun _ => HS.out _ J2.out.below) ?_
            clear hK K
            try simp only [Act.put, List.setIfInBounds_toArray, List.set_cons_zero, List.set_cons_succ, Nat.zero_add]
            refine wpAnyX_two (i := 3) (j := 4) rfl rfl (by kernel_rfl) (fun K hK => ?_) (fun K hK => ?_)
            · go_simp
              refine (HLB.out _ J2.out.below).mono ?_
              rintro _ wy ⟨_, rfl, ⟨_, rfl, Ay, cy, rfl, hmy⟩, hby⟩
              have J3 := Lib.hid (J2.out.cally hby ⟨_, rfl, Ay, cy, rfl, hmy⟩)
              clear hmy hby
              go_simp
              refine hK.out _ _ (fun _ => HS.out _ J3.out.below) ?_
              clear hK K
              try simp only [Act.put, List.setIfInBounds_toArray, List.set_cons_zero, List.set_cons_succ, Nat.zero_add]
              refine wpAnyX_one (i := 4) rfl (by kernel_rfl) (fun K hK => ?_)
              go_simp
              obtain ⟨u4, hu4⟩ : ∃ u4 : World, wy.alloc (.cells #[.int .i64 0, .slice none 0 0] 24) = u4 := ⟨_, rfl⟩
              rw [hu4]
              have J4 : Hid (JS W0 u4 (some wy.heap.size) (some W0.heap.size) (some (.agg #[.int .i64 a.next, .slice Ax a.nodes.length cx])) (some (.agg #[.int .i64 b.next, .slice Ay b.nodes.length cy])) a b) := Lib.hid (by rw [← hu4]; exact J3.out.alloc7)
              clear hu4
              refine hK.out _ _ (fun _ => HS.out _ J4.out.below) ?_
              clear hK K
              try simp only [Act.put, List.setIfInBounds_toArray, List.set_cons_zero, List.set_cons_succ, Nat.zero_add]
              refine wpAnyX_one (i := 6) rfl (by kernel_rfl) (fun K hK => ?_)
              have f7 := J4.out.b7 _ rfl
              have f8 := J4.out.b8 _ rfl
              have e70 := f7.2.cell 0; have e71 := f7.2.cell 1; have z70 := f7.2.frozen 0; have z71 := f7.2.frozen 1
              have e80 := f8.2.cell 0; have e81 := f8.2.cell 1; have z80 := f8.2.frozen 0; have z81 := f8.2.frozen 1
              have hne := J4.out.ne _ _ rfl rfl
              have hne' := Ne.symm hne
              simp [zModel] at e70 e71 e80 e81
              clear f7 f8
              go_simp
              refine hK.out _ _ (fun _ => ⟨(Below.cell ((J4.out.below.setCell (p := ⟨_, 0, none⟩) (J4.out.b7 _ rfl).1 _).setCell (p := ⟨_, 1, none⟩) (J4.out.b7 _ rfl).1 _) HA0.out).trans o0, (Below.cell ((J4.out.below.setCell (p := ⟨_, 0, none⟩) (J4.out.b7 _ rfl).1 _).setCell (p := ⟨_, 1, none⟩) (J4.out.b7 _ rfl).1 _) HA0.out).trans o1, (Below.cell ((J4.out.below.setCell (p := ⟨_, 0, none⟩) (J4.out.b7 _ rfl).1 _).setCell (p := ⟨_, 1, none⟩) (J4.out.b7 _ rfl).1 _) HA1.out).trans o2, (Below.cell ((J4.out.below.setCell (p := ⟨_, 0, none⟩) (J4.out.b7 _ rfl).1 _).setCell (p := ⟨_, 1, none⟩) (J4.out.b7 _ rfl).1 _) HA1.out).trans o3⟩) ?_
              clear hK K
              try simp only [Act.put, List.setIfInBounds_toArray, List.set_cons_zero, List.set_cons_succ, Nat.zero_add]
              refine wpAnyX_one (i := 7) rfl (by kernel_rfl) (fun K hK => ?_)
              go_simp
              refine hK.out _ _ (fun h => absurd rfl h) ?_
              clear hK K
              try simp only [Act.put, List.setIfInBounds_toArray, List.set_cons_zero, List.set_cons_succ, Nat.zero_add]
              refine wpAnyX_done (by kernel_rfl) ?_ _
              have HD := Lib.hid J4.out.done
              go_wp2_with fail
              go_meet
              case rel => exact ⟨_, _, _, _, _, _, rfl, rfl, HW0.out.trans (HD.out.1.mono (by rw [HWS.out]; exact Nat.le_refl _)), HD.out.2.1, HD.out.2.2.1, ⟨_, HD.out.2.2.2.1.choose_spec.1, fun c hc => by simpa using HD.out.2.2.2.1.choose_spec.2 c hc⟩, ⟨_, HD.out.2.2.2.2.choose_spec.1, fun c hc => by simpa using HD.out.2.2.2.2.choose_spec.2 c hc⟩⟩
            · go_simp
              obtain ⟨u3, hu3⟩ : ∃ u3 : World, wx.alloc (.cells #[.int .i64 0, .slice none 0 0] 24) = u3 := ⟨_, rfl⟩
              rw [hu3]
              have J3 : Hid (JS W0 u3 (some wx.heap.size) (some W0.heap.size) (some (.agg #[.int .i64 a.next, .slice Ax a.nodes.length cx])) none a b) := Lib.hid (by rw [← hu3]; exact J2.out.alloc7)
              clear hu3
              refine hK.out _ _ (fun _ => HS.out _ J3.out.below) ?_
              clear hK K
              try simp only [Act.put, List.setIfInBounds_toArray, List.set_cons_zero, List.set_cons_succ, Nat.zero_add]
              refine wpAnyX_one (i := 3) rfl (by kernel_rfl) (fun K hK => ?_)
              go_simp
              refine (HLB.out _ J3.out.below).mono ?_
              rintro _ wy ⟨_, rfl, ⟨_, rfl, Ay, cy, rfl, hmy⟩, hby⟩
              have J4 := Lib.hid (J3.out.cally hby ⟨_, rfl, Ay, cy, rfl, hmy⟩)
              clear hmy hby
              go_simp
              refine hK.out _ _ (fun _ => HS.out _ J4.out.below) ?_
              clear hK K
              try simp only [Act.put, List.setIfInBounds_toArray, List.set_cons_zero, List.set_cons_succ, Nat.zero_add]
              refine wpAnyX_one (i := 6) rfl (by kernel_rfl) (fun K hK => ?_)
              have f7 := J4.out.b7 _ rfl
              have f8 := J4.out.b8 _ rfl
              have e70 := f7.2.cell 0; have e71 := f7.2.cell 1; have z70 := f7.2.frozen 0; have z71 := f7.2.frozen 1
              have e80 := f8.2.cell 0; have e81 := f8.2.cell 1; have z80 := f8.2.frozen 0; have z81 := f8.2.frozen 1
              have hne := J4.out.ne _ _ rfl rfl
              have hne' := Ne.symm hne
              simp [zModel] at e70 e71 e80 e81
              clear f7 f8
              go_simp
              refine hK.out _ _ (fun _ => ⟨(Below.cell ((J4.out.below.setCell (p := ⟨_, 0, none⟩) (J4.out.b7 _ rfl).1 _).setCell (p := ⟨_, 1, none⟩) (J4.out.b7 _ rfl).1 _) HA0.out).trans o0, (Below.cell ((J4.out.below.setCell (p := ⟨_, 0, none⟩) (J4.out.b7 _ rfl).1 _).setCell (p := ⟨_, 1, none⟩) (J4.out.b7 _ rfl).1 _) HA0.out).trans o1, (Below.cell ((J4.out.below.setCell (p := ⟨_, 0, none⟩) (J4.out.b7 _ rfl).1 _).setCell (p := ⟨_, 1, none⟩) (J4.out.b7 _ rfl).1 _) HA1.out).trans o2, (Below.cell ((J4.out.below.setCell (p := ⟨_, 0, none⟩) (J4.out.b7 _ rfl).1 _).setCell (p := ⟨_, 1, none⟩) (J4.out.b7 _ rfl).1 _) HA1.out).trans o3⟩) ?_
              clear hK K
              try simp only [Act.put, List.setIfInBounds_toArray, List.set_cons_zero, List.set_cons_succ, Nat.zero_add]
              refine wpAnyX_one (i := 7) rfl (by kernel_rfl) (fun K hK => ?_)
              go_simp
              refine hK.out _ _ (fun h => absurd rfl h) ?_
              clear hK K
              try simp only [Act.put, List.setIfInBounds_toArray, List.set_cons_zero, List.set_cons_succ, Nat.zero_add]
              refine wpAnyX_done (by kernel_rfl) ?_ _
              have HD := Lib.hid J4.out.done
              go_wp2_with fail
              go_meet
              case rel => exact ⟨_, _, _, _, _, _, rfl, rfl, HW0.out.trans (HD.out.1.mono (by rw [HWS.out]; exact Nat.le_refl _)), HD.out.2.1, HD.out.2.2.1, ⟨_, HD.out.2.2.2.1.choose_spec.1, fun c hc => by simpa using HD.out.2.2.2.1.choose_spec.2 c hc⟩, ⟨_, HD.out.2.2.2.2.choose_spec.1, fun c hc => by simpa using HD.out.2.2.2.2.choose_spec.2 c hc⟩⟩
          · go_simp
            obtain ⟨u2, hu2⟩ : ∃ u2 : World, u1.alloc (.cells #[.int .i64 0, .slice none 0 0] 24) = u2 := ⟨_, rfl⟩
            rw [hu2]
            have J2 : Hid (JS W0 u2 (some u1.heap.size) (some W0.heap.size) none none a b) := Lib.hid (by rw [← hu2]; exact J1.out.alloc7)
            clear hu2
            refine hK.out _ _ (fun _ => HS.out _ J2.out.below) ?_
            clear hK K
            try simp only [Act.put, List.setIfInBounds_toArray, List.set_cons_zero, List.set_cons_succ, Nat.zero_add]
            refine wpAnyX_one (i := 1) rfl (by kernel_rfl) (fun K hK => ?_)
            go_simp
            refine (HLA.out _ J2.out.below).mono ?_
            rintro _ wx ⟨_, rfl, ⟨_, rfl, Ax, cx, rfl, hmx⟩, hbx⟩
            have J3 := Lib.hid (J2.out.callx hbx ⟨_, rfl, Ax, cx, rfl, hmx⟩)
            clear hmx hbx
            go_simp
            refine hK.out _ _ (fun _ => HS.out _ J3.out.below) ?_
            clear hK K
            try simp only [Act.put, List.setIfInBounds_toArray, List.set_cons_zero, List.set_cons_succ, Nat.zero_add]
            refine wpAnyX_one (i := 3) rfl (by kernel_rfl) (fun K hK => ?_)
            go_simp
            refine (HLB.out _ J3.out.below).mono ?_
            rintro _ wy ⟨_, rfl, ⟨_, rfl, Ay, cy, rfl, hmy⟩, hby⟩
            have J4 := Lib.hid (J3.out.cally hby ⟨_, rfl, Ay, cy, rfl, hmy⟩)
            clear hmy hby
            go_simp
            refine hK.out _ _ (fun _ => HS.out _ J4.out.below) ?_
            clear hK K
            try simp only [Act.put, List.setIfInBounds_toArray, List.set_cons_zero, List.set_cons_succ, Nat.zero_add]
            refine wpAnyX_one (i := 6) rfl (by kernel_rfl) (fun K hK => ?_)
            have f7 := J4.out.b7 _ rfl
            have f8 := J4.out.b8 _ rfl
            have e70 := f7.2.cell 0; have e71 := f7.2.cell 1; have z70 := f7.2.frozen 0; have z71 := f7.2.frozen 1
            have e80 := f8.2.cell 0; have e81 := f8.2.cell 1; have z80 := f8.2.frozen 0; have z81 := f8.2.frozen 1
            have hne := J4.out.ne _ _ rfl rfl
            have hne' := Ne.symm hne
            simp [zModel] at e70 e71 e80 e81
            clear f7 f8
            go_simp
            refine hK.out _ _ (fun _ => ⟨(Below.cell ((J4.out.below.setCell (p := ⟨_, 0, none⟩) (J4.out.b7 _ rfl).1 _).setCell (p := ⟨_, 1, none⟩) (J4.out.b7 _ rfl).1 _) HA0.out).trans o0, (Below.cell ((J4.out.below.setCell (p := ⟨_, 0, none⟩) (J4.out.b7 _ rfl).1 _).setCell (p := ⟨_, 1, none⟩) (J4.out.b7 _ rfl).1 _) HA0.out).trans o1, (Below.cell ((J4.out.below.setCell (p := ⟨_, 0, none⟩) (J4.out.b7 _ rfl).1 _).setCell (p := ⟨_, 1, none⟩) (J4.out.b7 _ rfl).1 _) HA1.out).trans o2, (Below.cell ((J4.out.below.setCell (p := ⟨_, 0, none⟩) (J4.out.b7 _ rfl).1 _).setCell (p := ⟨_, 1, none⟩) (J4.out.b7 _ rfl).1 _) HA1.out).trans o3⟩) ?_
            clear hK K
            try simp only [Act.put, List.setIfInBounds_toArray, List.set_cons_zero, List.set_cons_succ, Nat.zero_add]
            refine wpAnyX_one (i := 7) rfl (by kernel_rfl) (fun K hK => ?_)
            go_simp
            refine hK.out _ _ (fun h => absurd rfl h) ?_
            clear hK K
            try simp only [Act.put, List.setIfInBounds_toArray, List.set_cons_zero, List.set_cons_succ, Nat.zero_add]
            refine wpAnyX_done (by kernel_rfl) ?_ _
            have HD := Lib.hid J4.out.done
            go_wp2_with fail
            go_meet
            case rel => exact ⟨_, _, _, _, _, _, rfl, rfl, HW0.out.trans (HD.out.1.mono (by rw [HWS.out]; exact Nat.le_refl _)), HD.out.2.1, HD.out.2.2.1, ⟨_, HD.out.2.2.2.1.choose_spec.1, fun c hc => by simpa using HD.out.2.2.2.1.choose_spec.2 c hc⟩, ⟨_, HD.out.2.2.2.2.choose_spec.1, fun c hc => by simpa using HD.out.2.2.2.2.choose_spec.2 c hc⟩⟩
      case rest =>
        obtain ⟨p, q, Ax, Ay, cx, cy, rfl, rfl, hb, hbp, hbq, ⟨F, hx, hF⟩, ⟨F', hy, hF'⟩⟩ := hcut
        clear HLA HLB
        have HBC := Lib.hid (HB.out.trans (hb.mono HB.out.size))
        have HMC := Lib.hid (HM.out.below hb hmlt); have HNC := Lib.hid (HN.out.below hb hnlt)
        have e70 := hbp.cell 0; have e71 := hbp.cell 1; have e80 := hbq.cell 0; have e81 := hbq.cell 1
        clear o0 o1 o2 o3
        have o0 := HMC.out.cell 0; have o1 := HMC.out.cell 1; have o2 := HNC.out.cell 0; have o3 := HNC.out.cell 1
        simp at o0 o1 o2 o3 e70 e71 e80 e81
        have HXM := Lib.hid hx; have HYM := Lib.hid hy
        have hx2 := hx.plain; have hy2 := hy.plain
        obtain ⟨_, ex, A1, c1, ex2, x1, x2, rx⟩ := hx2
        obtain ⟨_, ey, A2, c2, ey2, y1, y2, ry⟩ := hy2
        simp only [Value.agg.injEq, Array.mk.injEq, List.cons.injEq, true_and, and_true] at ex ey
        subst ex ey
        injection ex2 with f1 _ f2
        injection ey2 with f3 _ f4
        subst f1 f2 f3 f4
        have HRX := Lib.hid rx; have HRY := Lib.hid ry
        clear rx ry hx hy hb hbp hbq x1 y1
        unfold maxLen at x2 y2
        have HG := Lib.hid (fun (d : Nat) (os : Array Obj) => below_regrown wc d os)
        have HGW := Lib.hid (fun (d : Nat) (os : Array Obj) => HBC.out.trans ((below_regrown wc d os).mono HBC.out.size))
        have HFX := Lib.hid (fun (d : Nat) (os : Array Obj) (b : Nat) (hb : F b) => Nat.lt_of_lt_of_le (hF b hb) (HG.out d os).size)
        have HFY := Lib.hid (fun (d : Nat) (os : Array Obj) (b : Nat) (hb : F' b) => Nat.lt_of_lt_of_le (hF' b hb) (HG.out d os).size)
        have HKX := Lib.hid (fun (d : Nat) (os : Array Obj) => RowOf.keep ENode.stays (Keep.below (HG.out d os) hF) (F' := F) (fun _ h => h) HRX.out)
        have HKY := Lib.hid (fun (d : Nat) (os : Array Obj) => RowOf.keep ENode.stays (Keep.below (HG.out d os) hF') (F' := F') (fun _ h => h) HRY.out)
        have HKA := Lib.hid (fun (d : Nat) (os : Array Obj) => RowOf.keep ENode.stays (Keep.below (HGW.out d os) fun _ h => h) (F' := fun b => b < w.heap.size) (fun _ h => h) ra)
        have HKB := Lib.hid (fun (d : Nat) (os : Array Obj) => RowOf.keep ENode.stays (Keep.below (HGW.out d os) fun _ h => h) (F' := fun b => b < w.heap.size) (fun _ h => h) rb)
        have HLW := Lib.hid (fun (d : Nat) (os : Array Obj) (b : Nat) (hb : b < w.heap.size) => Nat.lt_of_lt_of_le hb (HGW.out d os).size)
        have D1 := Lib.hid (fun (d : Nat) (os : Array Obj) => Calls.regrown_of (w := wc) (d := d) (os := os) (check_any Ax cx a _ F (HFX.out d os) (HKX.out d os) (fun x hx => (hz x hx).1) (by omega)))
        have D2 := Lib.hid (fun (d : Nat) (os : Array Obj) => Calls.regrown_of (w := wc) (d := d) (os := os) (HCK.out _ (HGW.out d os)))
        have D7 := Lib.hid (fun (d : Nat) (os : Array Obj) => Calls.regrown_of (w := wc) (d := d) (os := os) (res_is (eqB_yes (rfl : a = a)) (asame_any Ax Ax cx cx a a _ F F (HFX.out d os) (HFX.out d os) (HKX.out d os) (HKX.out d os) (by omega))))
        have D8 := Lib.hid (fun (d : Nat) (os : Array Obj) => Calls.regrown_of (w := wc) (d := d) (os := os) (kept_any _ _ a _ F (fun b => b < w.heap.size) (HFX.out d os) (HLW.out d os) (HXM.out.keep (Keep.below (HG.out d os) hF) (fun _ h => h)) (HMA.out.keep (Keep.below (HGW.out d os) fun _ h => h) (fun _ h => h)) hla))
        have D9 := Lib.hid (fun (d : Nat) (os : Array Obj) => Calls.regrown_of (w := wc) (d := d) (os := os) (kept_any _ _ b _ F' (fun b => b < w.heap.size) (HFY.out d os) (HLW.out d os) (HYM.out.keep (Keep.below (HG.out d os) hF') (fun _ h => h)) (HMB.out.keep (Keep.below (HGW.out d os) fun _ h => h) (fun _ h => h)) hlb))
        have D10 := Lib.hid (fun (d : Nat) (os : Array Obj) => Calls.regrown_of (w := wc) (d := d) (os := os) (new_any _))
        have D11 := Lib.hid (fun (d : Nat) (os : Array Obj) => Calls.regrown_of (w := wc) (d := d) (os := os) (same_new _))
        have W1 := Lib.hid (fun (b : Bool) (hb : wordA s = b) (d : Nat) (os : Array Obj) => Calls.regrown_of (w := wc) (d := d) (os := os) (aword_is hs hb _))
        have W2 := Lib.hid (fun (b : Bool) (hb : wordA s = b) (d : Nat) (os : Array Obj) => Calls.regrown_of (w := wc) (d := d) (os := os) ((word_is hs hb (Sort.grow (redrawn wc d) os)).mono fun _ _ h => ⟨h.1, by rw [h.2]; exact Below.refl _ _⟩))
        have S1 := Lib.hid (fun (e : Bool) (he : eqB a b = e) (d : Nat) (os : Array Obj) => Calls.regrown_of (w := wc) (d := d) (os := os) (res_is he (asame_any Ax Ay cx cy a b _ F F' (HFX.out d os) (HFY.out d os) (HKX.out d os) (HKY.out d os) (by omega))))
        have S2 := Lib.hid (fun (e : Bool) (he : eqB a b = e) (d : Nat) (os : Array Obj) => Calls.regrown_of (w := wc) (d := d) (os := os) (res_is he (same_any A B c d1 a b _ (fun b => b < w.heap.size) (fun b => b < w.heap.size) (HLW.out d os) (HLW.out d os) (HKA.out d os) (HKB.out d os) (by omega))))
        clear HCK HC0 hF hF'
        go_wp2_with fail
        have k0 := cell_regrown o0; have k1 := cell_regrown o1; have k2 := cell_regrown o2; have k3 := cell_regrown o3
        have l0 := cell_regrown e70; have l1 := cell_regrown e71; have l2 := cell_regrown e80; have l3 := cell_regrown e81
        clear o0 o1 o2 o3 e70 e71 e80 e81
        cases hwd : wordA s <;> cases heq : eqB a b
        all_goals
          have V1 := Lib.hid (W1.out _ hwd)
          have V2 := Lib.hid (W2.out _ hwd)
          have T1 := Lib.hid (S1.out _ heq)
          have T2 := Lib.hid (S2.out _ heq)
          clear hwd heq W1 W2 S1 S2
          refine wp_region_quiet_below (by kernel_rfl) (by kernel_rfl) ?_
          repeat (first | go_big_quiet_step ((first | with_reducible exact D1.out _ _ | with_reducible exact D2.out _ _ | with_reducible exact V1.out _ _ | with_reducible exact V2.out _ _ | with_reducible exact T1.out _ _ | with_reducible exact T2.out _ _ | with_reducible exact D7.out _ _ | with_reducible exact D8.out _ _ | with_reducible exact D9.out _ _ | with_reducible exact D10.out _ _ | with_reducible exact D11.out _ _)) | quiet_step ((first | with_reducible exact D1.out _ _ | with_reducible exact D2.out _ _ | with_reducible exact V1.out _ _ | with_reducible exact V2.out _ _ | with_reducible exact T1.out _ _ | with_reducible exact T2.out _ _ | with_reducible exact D7.out _ _ | with_reducible exact D8.out _ _ | with_reducible exact D9.out _ _ | with_reducible exact D10.out _ _ | with_reducible exact D11.out _ _)))
          refine wpQuiet_nil ?_
          intro _ hw'
          obtain ⟨⟨dq, osq⟩, hw''⟩ := hw'
          subst hw''
          go_wp2
          go_ret
          exact ⟨by simp, HGW.out dq osq⟩
end Go.Proofs.Ytmafhaadcjgcbaa
