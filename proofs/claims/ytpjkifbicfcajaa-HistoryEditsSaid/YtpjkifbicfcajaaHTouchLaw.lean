import Derived.Test.YtpjkifbicfcajaaRTouch
import Derived.Test.YtpjkifbicfcajaaTwoM
import Derived.Test.YtpjkifbicfcajaaHGreat
set_option linter.unusedSimpArgs false
set_option linter.unusedVariables false
/- the law of the nodes in which two models differ -/
namespace Go.Proofs.Ytpjkifbicfcajaa
open Go Go.RowKit

theorem mergeT_len (k : Nat) : ∀ a b : List ANode, a.length + b.length ≤ k → (mergeT a b).length ≤ k := by
  induction k with
  | zero =>
    intro a b h
    have ha : a = [] := List.eq_nil_of_length_eq_zero (by omega)
    have hb : b = [] := List.eq_nil_of_length_eq_zero (by omega)
    subst ha hb
    rw [mergeT_nil]; exact Nat.le_refl _
  | succ k ih =>
    intro a b h
    cases a with
    | nil =>
      cases b with
      | nil => rw [mergeT_nil]; exact Nat.zero_le _
      | cons y ys => rw [mergeT_right]; have := ih [] ys (by simp at h ⊢; omega); simp; omega
    | cons x xs =>
      cases b with
      | nil => rw [mergeT_left]; have := ih xs [] (by simp at h ⊢; omega); simp; omega
      | cons y ys =>
        simp only [List.length_cons] at h
        rcases Int.lt_trichotomy x.id y.id with h1 | h1 | h1
        · rw [mergeT_lt _ _ h1]; have := ih xs (y :: ys) (by simp; omega); simp; omega
        · by_cases he : x = y
          · subst he; rw [mergeT_same]; have := ih xs ys (by omega); omega
          · rw [mergeT_diff _ _ h1 he]; have := ih xs ys (by omega); simp; omega
        · rw [mergeT_gt _ _ h1]; have := ih (x :: xs) ys (by simp; omega); simp; omega
theorem touchL_len {a b : AModel} (ha : a.nodes.length ≤ 1172812402926) (hb : b.nodes.length ≤ 1172812402926) : (touchL a b).length ≤ 9223372036854775807 := by
  unfold touchL
  split
  · have := mergeT_len _ a.nodes b.nodes (Nat.le_refl _); omega
  · simp

set_option maxRecDepth 100000 in
set_option maxHeartbeats 8000000 in
theorem touched_any (va vb : Value) (a b : AModel) (w : World) (h : IsModel w (fun b => b < w.heap.size) va a) (h' : IsModel w (fun b => b < w.heap.size) vb b) (hza : ModAll a) (hzb : ModAll b) :
    Calls Try.prog 4 #[va, vb] w fun e w' => e = .returned (.bool true) ∧ Below w.heap.size w w' := by
  obtain ⟨_, rfl, A, c, rfl, ca1, ca2, ra⟩ := h
  obtain ⟨_, rfl, B, d1, rfl, cb1, cb2, rb⟩ := h'
  unfold maxLen at ca2 cb2
  have HB0 := Lib.hid (((Below.refl w.heap.size w).alloc (Nat.le_refl _) (.cells #[.int .i64 a.next, .slice A a.nodes.length c] 27)).alloc (by simp) (.cells #[.int .i64 b.next, .slice B b.nodes.length d1] 27))
  have HRA := Lib.hid (fun (w0 : World) (hb0 : Below w.heap.size w w0) => RowOf.keep ENode.stays (Keep.below hb0 fun _ h => h) (F' := fun b => b < w.heap.size) (fun _ h => h) ra)
  have HRB := Lib.hid (fun (w0 : World) (hb0 : Below w.heap.size w w0) => RowOf.keep ENode.stays (Keep.below hb0 fun _ h => h) (F' := fun b => b < w.heap.size) (fun _ h => h) rb)
  have HLW := Lib.hid (fun (w0 : World) (hb0 : Below w.heap.size w w0) (b : Nat) (hb : b < w.heap.size) => Nat.lt_of_lt_of_le hb hb0.size)
  have HZA := Lib.hid hza; have HZB := Lib.hid hzb
  have hna : a.nodes.length ≤ 1172812402926 := hza.2.2
  have hnb : b.nodes.length ≤ 1172812402926 := hzb.2.2
  clear ra rb hza hzb
  go_enter Try.func4, Try.ntmps4
  go_upto_region 1 with fail
  obtain ⟨v, hv⟩ : ∃ v : World, (w.alloc (.cells #[.int .i64 a.next, .slice A a.nodes.length c] 27)).alloc (.cells #[.int .i64 b.next, .slice B b.nodes.length d1] 27) = v := ⟨_, rfl⟩
  have HBV : Hid (Below w.heap.size w v) := Lib.hid (by rw [← hv]; exact HB0.out)
  have HM : Hid (Blk v w.heap.size 27 #[.int .i64 a.next, .slice A a.nodes.length c]) := Lib.hid (by rw [← hv]; exact (Blk.new _ _ _).alloc _)
  have HN : Hid (Blk v (w.heap.size + 1) 27 #[.int .i64 b.next, .slice B b.nodes.length d1]) := Lib.hid (by rw [← hv]; exact Blk.new' (by simp))
  rw [hv]
  clear hv HB0
  have m0 := HM.out.cell 0; have m1 := HM.out.cell 1; have n0 := HN.out.cell 0; have n1 := HN.out.cell 1
  have hmlt := HM.out.lt; have hnlt := HN.out.lt
  simp at m0 m1 n0 n1
  obtain ⟨s, hs⟩ : ∃ x, v.heap.size = x := ⟨_, rfl⟩
  have HWE : Hid (∃ z, v.alloc (.cells #[.int .i64 a.next, .slice A a.nodes.length c, .int .i64 b.next, .slice B b.nodes.length d1] 27) = z) := Lib.hid ⟨_, rfl⟩
  go_wp2_with fail
  obtain ⟨u1, hu1⟩ := HWE.out
  have HS1 : Hid (Blk u1 s 27 #[.int .i64 a.next, .slice A a.nodes.length c, .int .i64 b.next, .slice B b.nodes.length d1]) := Lib.hid (by rw [← hu1]; exact Blk.new' hs.symm)
  have hb1 : Below v.heap.size v u1 := by rw [← hu1]; exact (Below.refl _ _).alloc (Nat.le_refl _) _
  have HB1 := Lib.hid (HBV.out.trans (hb1.mono HBV.out.size))
  have HM1 := Lib.hid (HM.out.below hb1 hmlt); have HN1 := Lib.hid (HN.out.below hb1 hnlt)
  (try rw [hs])
  (try rw [hu1])
  clear HWE hu1 hs hb1 m0 m1 n0 n1 hmlt hnlt HBV HM HN
  refine (great_any (some ⟨s, 0, none⟩) 2 [a, b] u1 (fun b => b < u1.heap.size) (fun _ h => h) (two_models HS1.out ⟨_, _, rfl, ca1, ca2, RowOf.keep ENode.stays (Keep.refl _ _) (HLW.out u1 HB1.out) (HRA.out u1 HB1.out)⟩ ⟨_, _, rfl, cb1, cb2, RowOf.keep ENode.stays (Keep.refl _ _) (HLW.out u1 HB1.out) (HRB.out u1 HB1.out)⟩ HS1.out.lt) (fun m hm => by
    rcases List.mem_cons.1 hm with rfl | hm
    · exact HZA.out
    · rcases List.mem_cons.1 hm with rfl | hm
      · exact HZB.out
      · cases hm) (by simp)).mono ?_
  rintro _ v ⟨⟨gb, rfl⟩, hb2⟩
  have HB := Lib.hid (HB1.out.trans (hb2.mono HB1.out.size))
  have HM := Lib.hid (HM1.out.below hb2 HM1.out.lt); have HN := Lib.hid (HN1.out.below hb2 HN1.out.lt)
  clear hb2 HB1 HM1 HN1 HS1 ca1 ca2 cb1 cb2
  have o0 := HM.out.cell 0; have o1 := HM.out.cell 1; have o2 := HN.out.cell 0; have o3 := HN.out.cell 1
  have hmlt := HM.out.lt; have hnlt := HN.out.lt
  simp at o0 o1 o2 o3
  cases gb
  case true =>
    go_wp2
    go_ret
    exact ⟨by simp, HB.out⟩
  case false =>
    have HLA := Lib.hid (fun (w0 : World) (hb0 : Below v.heap.size v w0) => twinM_any A c a w0 (fun b => b < w.heap.size) (fun b hb => by have := HB.out.size; have := hb0.size; omega) (HRA.out w0 (HB.out.trans (hb0.mono HB.out.size))) HZA.out)
    have HLB := Lib.hid (fun (w0 : World) (hb0 : Below v.heap.size v w0) => twinM_any B d1 b w0 (fun b => b < w.heap.size) (fun b hb => by have := HB.out.size; have := hb0.size; omega) (HRB.out w0 (HB.out.trans (hb0.mono HB.out.size))) HZB.out)
    go_upto_region 3 with fail
    go_cut [5, 6] (fun s5 s6 wx => ∃ (p q : Nat) (Ax Ay : Option Addr) (cx cy : Nat), s5 = .pointer (some ⟨p, 0, none⟩) ∧ s6 = .pointer (some ⟨q, 0, none⟩) ∧ Below v.heap.size v wx ∧ Blk wx p 27 #[.int .i64 a.next, .slice Ax a.nodes.length cx] ∧ Blk wx q 27 #[.int .i64 b.next, .slice Ay b.nodes.length cy] ∧ (∃ F : Nat → Prop, IsModel wx F (.agg #[.int .i64 a.next, .slice Ax a.nodes.length cx]) a ∧ ∀ c, F c → c < wx.heap.size) ∧ ∃ F : Nat → Prop, IsModel wx F (.agg #[.int .i64 b.next, .slice Ay b.nodes.length cy]) b ∧ ∀ c, F c → c < wx.heap.size)
    case first => as_aux_lemma =>
      obtain ⟨W0, hW0⟩ : ∃ W0 : World, v.drew = W0 := ⟨_, rfl⟩
      have HW0 : Hid (Below v.heap.size v W0) := Lib.hid (by rw [← hW0]; exact (Below.refl _ _).drew)
      have HWS : Hid (W0.heap.size = v.heap.size) := Lib.hid (by rw [← hW0]; rfl)
      have HA0 : Hid (w.heap.size < W0.heap.size) := Lib.hid (by rw [HWS.out]; exact hmlt)
      have HA1 : Hid (w.heap.size + 1 < W0.heap.size) := Lib.hid (by rw [HWS.out]; exact hnlt)
      have q0 : W0.cell? ⟨w.heap.size, 0, none⟩ = some (.int .i64 a.next) := by rw [← hW0]; exact o0
      have q1 : W0.cell? ⟨w.heap.size, 1, none⟩ = some (.slice A a.nodes.length c) := by rw [← hW0]; exact o1
      have q2 : W0.cell? ⟨w.heap.size + 1, 0, none⟩ = some (.int .i64 b.next) := by rw [← hW0]; exact o2
      have q3 : W0.cell? ⟨w.heap.size + 1, 1, none⟩ = some (.slice B b.nodes.length d1) := by rw [← hW0]; exact o3
      replace o0 := q0; replace o1 := q1; replace o2 := q2; replace o3 := q3
      clear q0 q1 q2 q3
      refine wp_region_X (S := (fun w' => w'.cell? ⟨w.heap.size, 0, none⟩ = some (.int .i64 a.next) ∧ w'.cell? ⟨w.heap.size, 1, none⟩ = some (.slice A a.nodes.length c) ∧ w'.cell? ⟨w.heap.size + 1, 0, none⟩ = some (.int .i64 b.next) ∧ w'.cell? ⟨w.heap.size + 1, 1, none⟩ = some (.slice B b.nodes.length d1))) 7 (by kernel_rfl) (by rw [hW0]; exact ⟨o0, o1, o2, o3⟩) (fun hHeld => ?_)
      rw [hW0] at hHeld ⊢
      have HS : Hid (∀ w', Below W0.heap.size W0 w' → (fun w' => w'.cell? ⟨w.heap.size, 0, none⟩ = some (.int .i64 a.next) ∧ w'.cell? ⟨w.heap.size, 1, none⟩ = some (.slice A a.nodes.length c) ∧ w'.cell? ⟨w.heap.size + 1, 0, none⟩ = some (.int .i64 b.next) ∧ w'.cell? ⟨w.heap.size + 1, 1, none⟩ = some (.slice B b.nodes.length d1)) w') := Lib.hid (fun w' hb => ⟨(hb.cell HA0.out).trans o0, (hb.cell HA0.out).trans o1, (hb.cell HA1.out).trans o2, (hb.cell HA1.out).trans o3⟩)
      have HLA' := Lib.hid (fun (w0 : World) (hb0 : Below W0.heap.size W0 w0) => HLA.out w0 (HW0.out.trans (hb0.mono (by rw [HWS.out]; exact Nat.le_refl _))))
      have HLB' := Lib.hid (fun (w0 : World) (hb0 : Below W0.heap.size W0 w0) => HLB.out w0 (HW0.out.trans (hb0.mono (by rw [HWS.out]; exact Nat.le_refl _))))
      clear HLA HLB hW0
      have HLA := HLA'; have HLB := HLB'
      clear HLA' HLB'
      have J0 := Lib.hid (JT.start W0 a b)
      refine wpAnyX_take (i := 0) (v := ?_) rfl (by kernel_rfl) (by kernel_rfl) (by kernel_rfl) (by kernel_rfl) (fun _ _ _ h => h) (Or.inl ⟨by rfl, ?_⟩) (by assumption) ?_
      rotate_left 1
      · (intro w' hSw; obtain ⟨s1, s2, s3, s4⟩ := hSw; go_simp); try with_reducible rfl
      try simp only [Act.put, List.setIfInBounds_toArray, List.set_cons_zero, List.set_cons_succ, Nat.zero_add]
      refine wpAnyX_take (i := 2) (v := ?_) rfl (by kernel_rfl) (by kernel_rfl) (by kernel_rfl) (by kernel_rfl) (fun _ _ _ h => h) (Or.inl ⟨by rfl, ?_⟩) (by assumption) ?_
      rotate_left 1
      · (intro w' hSw; obtain ⟨s1, s2, s3, s4⟩ := hSw; go_simp); try with_reducible rfl
      try simp only [Act.put, List.setIfInBounds_toArray, List.set_cons_zero, List.set_cons_succ, Nat.zero_add]
      refine wpAnyX_three (i := 1) (j := 4) (m := 5) rfl rfl rfl (by kernel_rfl) (fun K hK => ?_) (fun K hK => ?_) (fun K hK => ?_)
      · go_simp
        refine (HLA.out _ J0.out.below).mono ?_
        rintro _ wx ⟨_, rfl, ⟨_, rfl, Ax, cx, rfl, hmx⟩, hbx⟩
        have J1 := Lib.hid (J0.out.callx hbx ⟨_, rfl, Ax, cx, rfl, hmx⟩)
        clear hmx hbx
        go_simp
        refine hK.out _ _ (fun _ => HS.out _ J1.out.below) ?_
        clear hK K
        try simp only [Act.put, List.setIfInBounds_toArray, List.set_cons_zero, List.set_cons_succ, Nat.zero_add]
        refine wpAnyX_three (i := 3) (j := 4) (m := 5) rfl rfl rfl (by kernel_rfl) (fun K hK => ?_) (fun K hK => ?_) (fun K hK => ?_)
        · go_simp
          refine (HLB.out _ J1.out.below).mono ?_
          rintro _ wy ⟨_, rfl, ⟨_, rfl, Ay, cy, rfl, hmy⟩, hby⟩
          have J2 := Lib.hid (J1.out.cally hby ⟨_, rfl, Ay, cy, rfl, hmy⟩)
          clear hmy hby
          go_simp
          refine hK.out _ _ (fun _ => HS.out _ J2.out.below) ?_
          clear hK K
          try simp only [Act.put, List.setIfInBounds_toArray, List.set_cons_zero, List.set_cons_succ, Nat.zero_add]
          refine wpAnyX_two (i := 4) (j := 5) rfl rfl (by kernel_rfl) (fun K hK => ?_) (fun K hK => ?_)
          · go_simp
            obtain ⟨u3, hu3⟩ : ∃ u3 : World, wy.alloc (.cells #[.int .i64 0, .slice none 0 0] 27) = u3 := ⟨_, rfl⟩
            rw [hu3]
            have J3 : Hid (JT W0 u3 (some wy.heap.size) none (some (.agg #[.int .i64 a.next, .slice Ax a.nodes.length cx])) (some (.agg #[.int .i64 b.next, .slice Ay b.nodes.length cy])) a b) := Lib.hid (by rw [← hu3]; exact J2.out.alloc7)
            clear hu3
            refine hK.out _ _ (fun _ => HS.out _ J3.out.below) ?_
            clear hK K
            try simp only [Act.put, List.setIfInBounds_toArray, List.set_cons_zero, List.set_cons_succ, Nat.zero_add]
            refine wpAnyX_one (i := 5) rfl (by kernel_rfl) (fun K hK => ?_)
            go_simp
            obtain ⟨u4, hu4⟩ : ∃ u4 : World, u3.alloc (.cells #[.int .i64 0, .slice none 0 0] 27) = u4 := ⟨_, rfl⟩
            rw [hu4]
            have J4 : Hid (JT W0 u4 (some wy.heap.size) (some u3.heap.size) (some (.agg #[.int .i64 a.next, .slice Ax a.nodes.length cx])) (some (.agg #[.int .i64 b.next, .slice Ay b.nodes.length cy])) a b) := Lib.hid (by rw [← hu4]; exact J3.out.alloc8)
            clear hu4
            refine hK.out _ _ (fun _ => HS.out _ J4.out.below) ?_
            clear hK K
            try simp only [Act.put, List.setIfInBounds_toArray, List.set_cons_zero, List.set_cons_succ, Nat.zero_add]
            refine wpAnyX_one (i := 6) rfl (by kernel_rfl) (fun K hK => ?_)
            have f7 := J4.out.b7 _ rfl
            have f8 := J4.out.b8 _ rfl
            have e70 := f7.2.cell 0; have e71 := f7.2.cell 1; have z70 := f7.2.frozen 0; have z71 := f7.2.frozen 1
            have e80 := f8.2.cell 0; have e81 := f8.2.cell 1; have z80 := f8.2.frozen 0; have z81 := f8.2.frozen 1
            have hne := J4.out.ne _ _ rfl rfl
            have hne' := Ne.symm hne
            simp [zModelT] at e70 e71 e80 e81
            clear f7 f8
            go_simp
            refine hK.out _ _ (fun _ => ⟨(Below.cell ((J4.out.below.setCell (p := ⟨_, 0, none⟩) (J4.out.b7 _ rfl).1 _).setCell (p := ⟨_, 1, none⟩) (J4.out.b7 _ rfl).1 _) HA0.out).trans o0, (Below.cell ((J4.out.below.setCell (p := ⟨_, 0, none⟩) (J4.out.b7 _ rfl).1 _).setCell (p := ⟨_, 1, none⟩) (J4.out.b7 _ rfl).1 _) HA0.out).trans o1, (Below.cell ((J4.out.below.setCell (p := ⟨_, 0, none⟩) (J4.out.b7 _ rfl).1 _).setCell (p := ⟨_, 1, none⟩) (J4.out.b7 _ rfl).1 _) HA1.out).trans o2, (Below.cell ((J4.out.below.setCell (p := ⟨_, 0, none⟩) (J4.out.b7 _ rfl).1 _).setCell (p := ⟨_, 1, none⟩) (J4.out.b7 _ rfl).1 _) HA1.out).trans o3⟩) ?_
            clear hK K
            try simp only [Act.put, List.setIfInBounds_toArray, List.set_cons_zero, List.set_cons_succ, Nat.zero_add]
            refine wpAnyX_one (i := 7) rfl (by kernel_rfl) (fun K hK => ?_)
            go_simp
            refine hK.out _ _ (fun h => absurd rfl h) ?_
            clear hK K
            try simp only [Act.put, List.setIfInBounds_toArray, List.set_cons_zero, List.set_cons_succ, Nat.zero_add]
            refine wpAnyX_done (by kernel_rfl) ?_ _
            have HD := Lib.hid J4.out.done
            go_wp2_with fail
            go_meet
            case rel => exact ⟨_, _, _, _, _, _, rfl, rfl, HW0.out.trans (HD.out.1.mono (by rw [HWS.out]; exact Nat.le_refl _)), HD.out.2.1, HD.out.2.2.1, ⟨_, HD.out.2.2.2.1.choose_spec.1, fun c hc => by simpa using HD.out.2.2.2.1.choose_spec.2 c hc⟩, ⟨_, HD.out.2.2.2.2.choose_spec.1, fun c hc => by simpa using HD.out.2.2.2.2.choose_spec.2 c hc⟩⟩
          · go_simp
            obtain ⟨u3, hu3⟩ : ∃ u3 : World, wy.alloc (.cells #[.int .i64 0, .slice none 0 0] 27) = u3 := ⟨_, rfl⟩
            rw [hu3]
            have J3 : Hid (JT W0 u3 none (some wy.heap.size) (some (.agg #[.int .i64 a.next, .slice Ax a.nodes.length cx])) (some (.agg #[.int .i64 b.next, .slice Ay b.nodes.length cy])) a b) := Lib.hid (by rw [← hu3]; exact J2.out.alloc8)
            clear hu3
            refine hK.out _ _ (fun _ => HS.out _ J3.out.below) ?_
            clear hK K
            try simp only [Act.put, List.setIfInBounds_toArray, List.set_cons_zero, List.set_cons_succ, Nat.zero_add]
            refine wpAnyX_one (i := 4) rfl (by kernel_rfl) (fun K hK => ?_)
            go_simp
            obtain ⟨u4, hu4⟩ : ∃ u4 : World, u3.alloc (.cells #[.int .i64 0, .slice none 0 0] 27) = u4 := ⟨_, rfl⟩
            rw [hu4]
            have J4 : Hid (JT W0 u4 (some u3.heap.size) (some wy.heap.size) (some (.agg #[.int .i64 a.next, .slice Ax a.nodes.length cx])) (some (.agg #[.int .i64 b.next, .slice Ay b.nodes.length cy])) a b) := Lib.hid (by rw [← hu4]; exact J3.out.alloc7)
            clear hu4
            refine hK.out _ _ (fun _ => HS.out _ J4.out.below) ?_
            clear hK K
            try simp only [Act.put, List.setIfInBounds_toArray, List.set_cons_zero, List.set_cons_succ, Nat.zero_add]
            refine wpAnyX_one (i := 6) rfl (by kernel_rfl) (fun K hK => ?_)
            have f7 := J4.out.b7 _ rfl
            have f8 := J4.out.b8 _ rfl
            have e70 := f7.2.cell 0; have e71 := f7.2.cell 1; have z70 := f7.2.frozen 0; have z71 := f7.2.frozen 1
            have e80 := f8.2.cell 0; have e81 := f8.2.cell 1; have z80 := f8.2.frozen 0; have z81 := f8.2.frozen 1
            have hne := J4.out.ne _ _ rfl rfl
            have hne' := Ne.symm hne
            simp [zModelT] at e70 e71 e80 e81
            clear f7 f8
            go_simp
            refine hK.out _ _ (fun _ => ⟨(Below.cell ((J4.out.below.setCell (p := ⟨_, 0, none⟩) (J4.out.b7 _ rfl).1 _).setCell (p := ⟨_, 1, none⟩) (J4.out.b7 _ rfl).1 _) HA0.out).trans o0, (Below.cell ((J4.out.below.setCell (p := ⟨_, 0, none⟩) (J4.out.b7 _ rfl).1 _).setCell (p := ⟨_, 1, none⟩) (J4.out.b7 _ rfl).1 _) HA0.out).trans o1, (Below.cell ((J4.out.below.setCell (p := ⟨_, 0, none⟩) (J4.out.b7 _ rfl).1 _).setCell (p := ⟨_, 1, none⟩) (J4.out.b7 _ rfl).1 _) HA1.out).trans o2, (Below.cell ((J4.out.below.setCell (p := ⟨_, 0, none⟩) (J4.out.b7 _ rfl).1 _).setCell (p := ⟨_, 1, none⟩) (J4.out.b7 _ rfl).1 _) HA1.out).trans o3⟩) ?_
            clear hK K
            try simp only [Act.put, List.setIfInBounds_toArray, List.set_cons_zero, List.set_cons_succ, Nat.zero_add]
            refine wpAnyX_one (i := 7) rfl (by kernel_rfl) (fun K hK => ?_)
            go_simp
            refine hK.out _ _ (fun h => absurd rfl h) ?_
            clear hK K
            try simp only [Act.put, List.setIfInBounds_toArray, List.set_cons_zero, List.set_cons_succ, Nat.zero_add]
            refine wpAnyX_done (by kernel_rfl) ?_ _
            have HD := Lib.hid J4.out.done
            go_wp2_with fail
            go_meet
            case rel => exact ⟨_, _, _, _, _, _, rfl, rfl, HW0.out.trans (HD.out.1.mono (by rw [HWS.out]; exact Nat.le_refl _)), HD.out.2.1, HD.out.2.2.1, ⟨_, HD.out.2.2.2.1.choose_spec.1, fun c hc => by simpa using HD.out.2.2.2.1.choose_spec.2 c hc⟩, ⟨_, HD.out.2.2.2.2.choose_spec.1, fun c hc => by simpa using HD.out.2.2.2.2.choose_spec.2 c hc⟩⟩
        · go_simp
          obtain ⟨u2, hu2⟩ : ∃ u2 : World, wx.alloc (.cells #[.int .i64 0, .slice none 0 0] 27) = u2 := ⟨_, rfl⟩
          rw [hu2]
          have J2 : Hid (JT W0 u2 (some wx.heap.size) none (some (.agg #[.int .i64 a.next, .slice Ax a.nodes.length cx])) none a b) := Lib.hid (by rw [← hu2]; exact J1.out.alloc7)
          clear hu2
          refine hK.out _ _ (fun _ => HS.out _ J2.out.below) ?_
          clear hK K
          try simp only [Act.put, List.setIfInBounds_toArray, List.set_cons_zero, List.set_cons_succ, Nat.zero_add]
          refine wpAnyX_two (i := 3) (j := 5) rfl rfl (by kernel_rfl) (fun K hK => ?_) (fun K hK => ?_)
          · go_simp
            refine (HLB.out _ J2.out.below).mono ?_
            rintro _ wy ⟨_, rfl, ⟨_, rfl, Ay, cy, rfl, hmy⟩, hby⟩
            have J3 := Lib.hid (J2.out.cally hby ⟨_, rfl, Ay, cy, rfl, hmy⟩)
            clear hmy hby
            go_simp
            refine hK.out _ _ (fun _ => HS.out _ J3.out.below) ?_
            clear hK K
            try simp only [Act.put, List.setIfInBounds_toArray, List.set_cons_zero, List.set_cons_succ, Nat.zero_add]
            refine wpAnyX_one (i := 5) rfl (by kernel_rfl) (fun K hK => ?_)
            go_simp
            obtain ⟨u4, hu4⟩ : ∃ u4 : World, wy.alloc (.cells #[.int .i64 0, .slice none 0 0] 27) = u4 := ⟨_, rfl⟩
            rw [hu4]
            have J4 : Hid (JT W0 u4 (some wx.heap.size) (some wy.heap.size) (some (.agg #[.int .i64 a.next, .slice Ax a.nodes.length cx])) (some (.agg #[.int .i64 b.next, .slice Ay b.nodes.length cy])) a b) := Lib.hid (by rw [← hu4]; exact J3.out.alloc8)
            clear hu4
            refine hK.out _ _ (fun _ => HS.out _ J4.out.below) ?_
            clear hK K
            try simp only [Act.put, List.setIfInBounds_toArray, List.set_cons_zero, List.set_cons_succ, Nat.zero_add]
            refine wpAnyX_one (i := 6) rfl (by kernel_rfl) (fun K hK => ?_)
            have f7 := J4.out.b7 _ rfl
            have f8 := J4.out.b8 _ rfl
            have e70 := f7.2.cell 0; have e71 := f7.2.cell 1; have z70 := f7.2.frozen 0; have z71 := f7.2.frozen 1
            have e80 := f8.2.cell 0; have e81 := f8.2.cell 1; have z80 := f8.2.frozen 0; have z81 := f8.2.frozen 1
            have hne := J4.out.ne _ _ rfl rfl
            have hne' := Ne.symm hne
            simp [zModelT] at e70 e71 e80 e81
            clear f7 f8
            go_simp
            refine hK.out _ _ (fun _ => ⟨(Below.cell ((J4.out.below.setCell (p := ⟨_, 0, none⟩) (J4.out.b7 _ rfl).1 _).setCell (p := ⟨_, 1, none⟩) (J4.out.b7 _ rfl).1 _) HA0.out).trans o0, (Below.cell ((J4.out.below.setCell (p := ⟨_, 0, none⟩) (J4.out.b7 _ rfl).1 _).setCell (p := ⟨_, 1, none⟩) (J4.out.b7 _ rfl).1 _) HA0.out).trans o1, (Below.cell ((J4.out.below.setCell (p := ⟨_, 0, none⟩) (J4.out.b7 _ rfl).1 _).setCell (p := ⟨_, 1, none⟩) (J4.out.b7 _ rfl).1 _) HA1.out).trans o2, (Below.cell ((J4.out.below.setCell (p := ⟨_, 0, none⟩) (J4.out.b7 _ rfl).1 _).setCell (p := ⟨_, 1, none⟩) (J4.out.b7 _ rfl).1 _) HA1.out).trans o3⟩) ?_
            clear hK K
            try simp only [Act.put, List.setIfInBounds_toArray, List.set_cons_zero, List.set_cons_succ, Nat.zero_add]
            refine wpAnyX_one (i := 7) rfl (by kernel_rfl) (fun K hK => ?_)
            go_simp
            refine hK.out _ _ (fun h => absurd rfl h) ?_
            clear hK K
            try simp only [Act.put, List.setIfInBounds_toArray, List.set_cons_zero, List.set_cons_succ, Nat.zero_add]
            refine wpAnyX_done (by kernel_rfl) ?_ _
            have HD := Lib.hid J4.out.done
            go_wp2_with fail
            go_meet
            case rel => exact ⟨_, _, _, _, _, _, rfl, rfl, HW0.out.trans (HD.out.1.mono (by rw [HWS.out]; exact Nat.le_refl _)), HD.out.2.1, HD.out.2.2.1, ⟨_, HD.out.2.2.2.1.choose_spec.1, fun c hc => by simpa using HD.out.2.2.2.1.choose_spec.2 c hc⟩, ⟨_, HD.out.2.2.2.2.choose_spec.1, fun c hc => by simpa using HD.out.2.2.2.2.choose_spec.2 c hc⟩⟩
          · go_simp
            obtain ⟨u3, hu3⟩ : ∃ u3 : World, u2.alloc (.cells #[.int .i64 0, .slice none 0 0] 27) = u3 := ⟨_, rfl⟩
            rw [hu3]
            have J3 : Hid (JT W0 u3 (some wx.heap.size) (some u2.heap.size) (some (.agg #[.int .i64 a.next, .slice Ax a.nodes.length cx])) none a b) := Lib.hid (by rw [← hu3]; exact J2.out.alloc8)
            clear hu3
            refine hK.out _ _ (fun _ => HS.out _ J3.out.below) ?_
            clear hK K
            try simp only [Act.put, List.setIfInBounds_toArray, List.set_cons_zero, List.set_cons_succ, Nat.zero_add]
            refine wpAnyX_one (i := 3) rfl (by kernel_rfl) (fun K hK => ?_)
            go_simp
            refine (HLB.out _ J3.out.below).mono ?_
            rintro _ wy ⟨_, rfl, ⟨_, rfl, Ay, cy, rfl, hmy⟩, hby⟩
            have J4 := Lib.hid (J3.out.cally hby ⟨_, rfl, Ay, cy, rfl, hmy⟩)
            clear hmy hby
            go_simp
            refine hK.out _ _ (fun _ => HS.out _ J4.out.below) ?_
            clear hK K
            try simp only [Act.put, List.setIfInBounds_toArray, List.set_cons_zero, List.set_cons_succ, Nat.zero_add]
            refine wpAnyX_one (i := 6) rfl (by kernel_rfl) (fun K hK => ?_)
            have f7 := J4.out.b7 _ rfl
            have f8 := J4.out.b8 _ rfl
            have e70 := f7.2.cell 0; have e71 := f7.2.cell 1; have z70 := f7.2.frozen 0; have z71 := f7.2.frozen 1
            have e80 := f8.2.cell 0; have e81 := f8.2.cell 1; have z80 := f8.2.frozen 0; have z81 := f8.2.frozen 1
            have hne := J4.out.ne _ _ rfl rfl
            have hne' := Ne.symm hne
            simp [zModelT] at e70 e71 e80 e81
            clear f7 f8
            go_simp
            refine hK.out _ _ (fun _ => ⟨(Below.cell ((J4.out.below.setCell (p := ⟨_, 0, none⟩) (J4.out.b7 _ rfl).1 _).setCell (p := ⟨_, 1, none⟩) (J4.out.b7 _ rfl).1 _) HA0.out).trans o0, (Below.cell ((J4.out.below.setCell (p := ⟨_, 0, none⟩) (J4.out.b7 _ rfl).1 _).setCell (p := ⟨_, 1, none⟩) (J4.out.b7 _ rfl).1 _) HA0.out).trans o1, (Below.cell ((J4.out.below.setCell (p := ⟨_, 0, none⟩) (J4.out.b7 _ rfl).1 _).setCell (p := ⟨_, 1, none⟩) (J4.out.b7 _ rfl).1 _) HA1.out).trans o2, (Below.cell ((J4.out.below.setCell (p := ⟨_, 0, none⟩) (J4.out.b7 _ rfl).1 _).setCell (p := ⟨_, 1, none⟩) (J4.out.b7 _ rfl).1 _) HA1.out).trans o3⟩) ?_
            clear hK K
            try simp only [Act.put, List.setIfInBounds_toArray, List.set_cons_zero, List.set_cons_succ, Nat.zero_add]
            refine wpAnyX_one (i := 7) rfl (by kernel_rfl) (fun K hK => ?_)
            go_simp
            refine hK.out _ _ (fun h => absurd rfl h) ?_
            clear hK K
            try simp only [Act.put, List.setIfInBounds_toArray, List.set_cons_zero, List.set_cons_succ, Nat.zero_add]
            refine wpAnyX_done (by kernel_rfl) ?_ _
            have HD := Lib.hid J4.out.done
            go_wp2_with fail
            go_meet
            case rel => exact ⟨_, _, _, _, _, _, rfl, rfl, HW0.out.trans (HD.out.1.mono (by rw [HWS.out]; exact Nat.le_refl _)), HD.out.2.1, HD.out.2.2.1, ⟨_, HD.out.2.2.2.1.choose_spec.1, fun c hc => by simpa using HD.out.2.2.2.1.choose_spec.2 c hc⟩, ⟨_, HD.out.2.2.2.2.choose_spec.1, fun c hc => by simpa using HD.out.2.2.2.2.choose_spec.2 c hc⟩⟩
        · go_simp
          obtain ⟨u2, hu2⟩ : ∃ u2 : World, wx.alloc (.cells #[.int .i64 0, .slice none 0 0] 27) = u2 := ⟨_, rfl⟩
          rw [hu2]
          have J2 : Hid (JT W0 u2 none (some wx.heap.size) (some (.agg #[.int .i64 a.next, .slice Ax a.nodes.length cx])) none a b) := Lib.hid (by rw [← hu2]; exact J1.out.alloc8)
          clear hu2
          refine hK.out _ _ (fun _ => HS.out _ J2.out.below) ?_
          clear hK K
          try simp only [Act.put, List.setIfInBounds_toArray, List.set_cons_zero, List.set_cons_succ, Nat.zero_add]
          refine wpAnyX_two (i := 3) (j := 4) rfl rfl (by kernel_rfl) (fun K hK => ?_) (fun K hK => ?_)
          · go_simp
            refine (HLB.out _ J2.out.below).mono ?_
            rintro _ wy ⟨_, rfl, ⟨_, rfl, Ay, cy, rfl, hmy⟩, hby⟩
            have J3 := Lib.hid (J2.out.cally hby ⟨_, rfl, Ay, cy, rfl, hmy⟩)
            clear hmy hby
            go_simp
            refine hK.out _ _ (fun _ => HS.out _ J3.out.below) ?_
            clear hK K
            try simp only [Act.put, List.setIfInBounds_toArray, List.set_cons_zero, List.set_cons_succ, Nat.zero_add]
            refine wpAnyX_one (i := 4) rfl (by kernel_rfl) (fun K hK => ?_)
            go_simp
            obtain ⟨u4, hu4⟩ : ∃ u4 : World, wy.alloc (.cells #[.int .i64 0, .slice none 0 0] 27) = u4 := ⟨_, rfl⟩
            rw [hu4]
            have J4 : Hid (JT W0 u4 (some wy.heap.size) (some wx.heap.size) (some (.agg #[.int .i64 a.next, .slice Ax a.nodes.length cx])) (some (.agg #[.int .i64 b.next, .slice Ay b.nodes.length cy])) a b) := Lib.hid (by rw [← hu4]; exact J3.out.alloc7)
            clear hu4
            refine hK.out _ _ (fun _ => HS.out _ J4.out.below) ?_
            clear hK K
            try simp only [Act.put, List.setIfInBounds_toArray, List.set_cons_zero, List.set_cons_succ, Nat.zero_add]
            refine wpAnyX_one (i := 6) rfl (by kernel_rfl) (fun K hK => ?_)
            have f7 := J4.out.b7 _ rfl
            have f8 := J4.out.b8 _ rfl
            have e70 := f7.2.cell 0; have e71 := f7.2.cell 1; have z70 := f7.2.frozen 0; have z71 := f7.2.frozen 1
            have e80 := f8.2.cell 0; have e81 := f8.2.cell 1; have z80 := f8.2.frozen 0; have z81 := f8.2.frozen 1
            have hne := J4.out.ne _ _ rfl rfl
            have hne' := Ne.symm hne
            simp [zModelT] at e70 e71 e80 e81
            clear f7 f8
            go_simp
            refine hK.out _ _ (fun _ => ⟨(Below.cell ((J4.out.below.setCell (p := ⟨_, 0, none⟩) (J4.out.b7 _ rfl).1 _).setCell (p := ⟨_, 1, none⟩) (J4.out.b7 _ rfl).1 _) HA0.out).trans o0, (Below.cell ((J4.out.below.setCell (p := ⟨_, 0, none⟩) (J4.out.b7 _ rfl).1 _).setCell (p := ⟨_, 1, none⟩) (J4.out.b7 _ rfl).1 _) HA0.out).trans o1, (Below.cell ((J4.out.below.setCell (p := ⟨_, 0, none⟩) (J4.out.b7 _ rfl).1 _).setCell (p := ⟨_, 1, none⟩) (J4.out.b7 _ rfl).1 _) HA1.out).trans o2, (Below.cell ((J4.out.below.setCell (p := ⟨_, 0, none⟩) (J4.out.b7 _ rfl).1 _).setCell (p := ⟨_, 1, none⟩) (J4.out.b7 _ rfl).1 _) HA1.out).trans o3⟩) ?_
            clear hK K
            try simp only [Act.put, List.setIfInBounds_toArray, List.set_cons_zero, List.set_cons_succ, Nat.zero_add]
            refine wpAnyX_one (i := 7) rfl (by kernel_rfl) (fun K hK => ?_)
            go_simp
            refine hK.out _ _ (fun h => absurd rfl h) ?_
            clear hK K
            try simp only [Act.put, List.setIfInBounds_toArray, List.set_cons_zero, List.set_cons_succ, Nat.zero_add]
            refine wpAnyX_done (by kernel_rfl) ?_ _
            have HD := Lib.hid J4.out.done
            go_wp2_with fail
            go_meet
            case rel => exact ⟨_, _, _, _, _, _, rfl, rfl, HW0.out.trans (HD.out.1.mono (by rw [HWS.out]; exact Nat.le_refl _)), HD.out.2.1, HD.out.2.2.1, ⟨_, HD.out.2.2.2.1.choose_spec.1, fun c hc => by simpa using HD.out.2.2.2.1.choose_spec.2 c hc⟩, ⟨_, HD.out.2.2.2.2.choose_spec.1, fun c hc => by simpa using HD.out.2.2.2.2.choose_spec.2 c hc⟩⟩
          · go_simp
            obtain ⟨u3, hu3⟩ : ∃ u3 : World, u2.alloc (.cells #[.int .i64 0, .slice none 0 0] 27) = u3 := ⟨_, rfl⟩
            rw [hu3]
            have J3 : Hid (JT W0 u3 (some u2.heap.size) (some wx.heap.size) (some (.agg #[.int .i64 a.next, .slice Ax a.nodes.length cx])) none a b) := Lib.hid (by rw [← hu3]; exact J2.out.alloc7)
            clear hu3
            refine hK.out _ _ (fun _ => HS.out _ J3.out.below) ?_
            clear hK K
            try simp only [Act.put, List.setIfInBounds_toArray, List.set_cons_zero, List.set_cons_succ, Nat.zero_add]
            refine wpAnyX_one (i := 3) rfl (by kernel_rfl) (fun K hK => ?_)
            go_simp
            refine (HLB.out _ J3.out.below).mono ?_
            rintro _ wy ⟨_, rfl, ⟨_, rfl, Ay, cy, rfl, hmy⟩, hby⟩
            have J4 := Lib.hid (J3.out.cally hby ⟨_, rfl, Ay, cy, rfl, hmy⟩)
            clear hmy hby
            go_simp
            refine hK.out _ _ (fun _ => HS.out _ J4.out.below) ?_
            clear hK K
            try simp only [Act.put, List.setIfInBounds_toArray, List.set_cons_zero, List.set_cons_succ, Nat.zero_add]
            refine wpAnyX_one (i := 6) rfl (by kernel_rfl) (fun K hK => ?_)
            have f7 := J4.out.b7 _ rfl
            have f8 := J4.out.b8 _ rfl
            have e70 := f7.2.cell 0; have e71 := f7.2.cell 1; have z70 := f7.2.frozen 0; have z71 := f7.2.frozen 1
            have e80 := f8.2.cell 0; have e81 := f8.2.cell 1; have z80 := f8.2.frozen 0; have z81 := f8.2.frozen 1
            have hne := J4.out.ne _ _ rfl rfl
            have hne' := Ne.symm hne
            simp [zModelT] at e70 e71 e80 e81
            clear f7 f8
            go_simp
            refine hK.out _ _ (fun _ => ⟨(Below.cell ((J4.out.below.setCell (p := ⟨_, 0, none⟩) (J4.out.b7 _ rfl).1 _).setCell (p := ⟨_, 1, none⟩) (J4.out.b7 _ rfl).1 _) HA0.out).trans o0, (Below.cell ((J4.out.below.setCell (p := ⟨_, 0, none⟩) (J4.out.b7 _ rfl).1 _).setCell (p := ⟨_, 1, none⟩) (J4.out.b7 _ rfl).1 _) HA0.out).trans o1, (Below.cell ((J4.out.below.setCell (p := ⟨_, 0, none⟩) (J4.out.b7 _ rfl).1 _).setCell (p := ⟨_, 1, none⟩) (J4.out.b7 _ rfl).1 _) HA1.out).trans o2, (Below.cell ((J4.out.below.setCell (p := ⟨_, 0, none⟩) (J4.out.b7 _ rfl).1 _).setCell (p := ⟨_, 1, none⟩) (J4.out.b7 _ rfl).1 _) HA1.out).trans o3⟩) ?_
            clear hK K
            try simp only [Act.put, List.setIfInBounds_toArray, List.set_cons_zero, List.set_cons_succ, Nat.zero_add]
            refine wpAnyX_one (i := 7) rfl (by kernel_rfl) (fun K hK => ?_)
            go_simp
            refine hK.out _ _ (fun h => absurd rfl h) ?_
            clear hK K
            try simp only [Act.put, List.setIfInBounds_toArray, List.set_cons_zero, List.set_cons_succ, Nat.zero_add]
            refine wpAnyX_done (by kernel_rfl) ?_ _
            have HD := Lib.hid J4.out.done
            go_wp2_with fail
            go_meet
            case rel => exact ⟨_, _, _, _, _, _, rfl, rfl, HW0.out.trans (HD.out.1.mono (by rw [HWS.out]; exact Nat.le_refl _)), HD.out.2.1, HD.out.2.2.1, ⟨_, HD.out.2.2.2.1.choose_spec.1, fun c hc => by simpa using HD.out.2.2.2.1.choose_spec.2 c hc⟩, ⟨_, HD.out.2.2.2.2.choose_spec.1, fun c hc => by simpa using HD.out.2.2.2.2.choose_spec.2 c hc⟩⟩
      · go_simp
        obtain ⟨u1, hu1⟩ : ∃ u1 : World, W0.alloc (.cells #[.int .i64 0, .slice none 0 0] 27) = u1 := ⟨_, rfl⟩
        rw [hu1]
        have J1 : Hid (JT W0 u1 (some W0.heap.size) none none none a b) := Lib.hid (by rw [← hu1]; exact J0.out.alloc7)
        clear hu1
        refine hK.out _ _ (fun _ => HS.out _ J1.out.below) ?_
        clear hK K
        try simp only [Act.put, List.setIfInBounds_toArray, List.set_cons_zero, List.set_cons_succ, Nat.zero_add]
        refine wpAnyX_two (i := 1) (j := 5) rfl rfl (by kernel_rfl) (fun K hK => ?_) (fun K hK => ?_)
        · go_simp
          refine (HLA.out _ J1.out.below).mono ?_
          rintro _ wx ⟨_, rfl, ⟨_, rfl, Ax, cx, rfl, hmx⟩, hbx⟩
          have J2 := Lib.hid (J1.out.callx hbx ⟨_, rfl, Ax, cx, rfl, hmx⟩)
          clear hmx hbx
          go_simp
          refine hK.out _ _ (fun _ => HS.out _ J2.out.below) ?_
          clear hK K
          try simp only [Act.put, List.setIfInBounds_toArray, List.set_cons_zero, List.set_cons_succ, Nat.zero_add]
          refine wpAnyX_two (i := 3) (j := 5) rfl rfl (by kernel_rfl) (fun K hK => ?_) (fun K hK => ?_)
          · go_simp
            refine (HLB.out _ J2.out.below).mono ?_
            rintro _ wy ⟨_, rfl, ⟨_, rfl, Ay, cy, rfl, hmy⟩, hby⟩
            have J3 := Lib.hid (J2.out.cally hby ⟨_, rfl, Ay, cy, rfl, hmy⟩)
            clear hmy hby
            go_simp
            refine hK.out _ _ (fun _ => HS.out _ J3.out.below) ?_
            clear hK K
            try simp only [Act.put, List.setIfInBounds_toArray, List.set_cons_zero, List.set_cons_succ, Nat.zero_add]
            refine wpAnyX_one (i := 5) rfl (by kernel_rfl) (fun K hK => ?_)
            go_simp
            obtain ⟨u4, hu4⟩ : ∃ u4 : World, wy.alloc (.cells #[.int .i64 0, .slice none 0 0] 27) = u4 := ⟨_, rfl⟩
            rw [hu4]
            have J4 : Hid (JT W0 u4 (some W0.heap.size) (some wy.heap.size) (some (.agg #[.int .i64 a.next, .slice Ax a.nodes.length cx])) (some (.agg #[.int .i64 b.next, .slice Ay b.nodes.length cy])) a b) := Lib.hid (by rw [← hu4]; exact J3.out.alloc8)
            clear hu4
            refine hK.out _ _ (fun _ => HS.out _ J4.out.below) ?_
            clear hK K
            try simp only [Act.put, List.setIfInBounds_toArray, List.set_cons_zero, List.set_cons_succ, Nat.zero_add]
            refine wpAnyX_one (i := 6) rfl (by kernel_rfl) (fun K hK => ?_)
            have f7 := J4.out.b7 _ rfl
            have f8 := J4.out.b8 _ rfl
            have e70 := f7.2.cell 0; have e71 := f7.2.cell 1; have z70 := f7.2.frozen 0; have z71 := f7.2.frozen 1
            have e80 := f8.2.cell 0; have e81 := f8.2.cell 1; have z80 := f8.2.frozen 0; have z81 := f8.2.frozen 1
            have hne := J4.out.ne _ _ rfl rfl
            have hne' := Ne.symm hne
            simp [zModelT] at e70 e71 e80 e81
            clear f7 f8
            go_simp
            refine hK.out _ _ (fun _ => ⟨(Below.cell ((J4.out.below.setCell (p := ⟨_, 0, none⟩) (J4.out.b7 _ rfl).1 _).setCell (p := ⟨_, 1, none⟩) (J4.out.b7 _ rfl).1 _) HA0.out).trans o0, (Below.cell ((J4.out.below.setCell (p := ⟨_, 0, none⟩) (J4.out.b7 _ rfl).1 _).setCell (p := ⟨_, 1, none⟩) (J4.out.b7 _ rfl).1 _) HA0.out).trans o1, (Below.cell ((J4.out.below.setCell (p := ⟨_, 0, none⟩) (J4.out.b7 _ rfl).1 _).setCell (p := ⟨_, 1, none⟩) (J4.out.b7 _ rfl).1 _) HA1.out).trans o2, (Below.cell ((J4.out.below.setCell (p := ⟨_, 0, none⟩) (J4.out.b7 _ rfl).1 _).setCell (p := ⟨_, 1, none⟩) (J4.out.b7 _ rfl).1 _) HA1.out).trans o3⟩) ?_
            clear hK K
            try simp only [Act.put, List.setIfInBounds_toArray, List.set_cons_zero, List.set_cons_succ, Nat.zero_add]
            refine wpAnyX_one (i := 7) rfl (by kernel_rfl) (fun K hK => ?_)
            go_simp
            refine hK.out _ _ (fun h => absurd rfl h) ?_
            clear hK K
            try simp only [Act.put, List.setIfInBounds_toArray, List.set_cons_zero, List.set_cons_succ, Nat.zero_add]
            refine wpAnyX_done (by kernel_rfl) ?_ _
            have HD := Lib.hid J4.out.done
            go_wp2_with fail
            go_meet
            case rel => exact ⟨_, _, _, _, _, _, rfl, rfl, HW0.out.trans (HD.out.1.mono (by rw [HWS.out]; exact Nat.le_refl _)), HD.out.2.1, HD.out.2.2.1, ⟨_, HD.out.2.2.2.1.choose_spec.1, fun c hc => by simpa using HD.out.2.2.2.1.choose_spec.2 c hc⟩, ⟨_, HD.out.2.2.2.2.choose_spec.1, fun c hc => by simpa using HD.out.2.2.2.2.choose_spec.2 c hc⟩⟩
          · go_simp
            obtain ⟨u3, hu3⟩ : ∃ u3 : World, wx.alloc (.cells #[.int .i64 0, .slice none 0 0] 27) = u3 := ⟨_, rfl⟩
            rw [hu3]
            have J3 : Hid (JT W0 u3 (some W0.heap.size) (some wx.heap.size) (some (.agg #[.int .i64 a.next, .slice Ax a.nodes.length cx])) none a b) := Lib.hid (by rw [← hu3]; exact J2.out.alloc8)
            clear hu3
            refine hK.out _ _ (fun _ => HS.out _ J3.out.below) ?_
            clear hK K
            try simp only [Act.put, List.setIfInBounds_toArray, List.set_cons_zero, List.set_cons_succ, Nat.zero_add]
            refine wpAnyX_one (i := 3) rfl (by kernel_rfl) (fun K hK => ?_)
            go_simp
            refine (HLB.out _ J3.out.below).mono ?_
            rintro _ wy ⟨_, rfl, ⟨_, rfl, Ay, cy, rfl, hmy⟩, hby⟩
            have J4 := Lib.hid (J3.out.cally hby ⟨_, rfl, Ay, cy, rfl, hmy⟩)
            clear hmy hby
            go_simp
            refine hK.out _ _ (fun _ => HS.out _ J4.out.below) ?_
            clear hK K
            try simp only [Act.put, List.setIfInBounds_toArray, List.set_cons_zero, List.set_cons_succ, Nat.zero_add]
            refine wpAnyX_one (i := 6) rfl (by kernel_rfl) (fun K hK => ?_)
            have f7 := J4.out.b7 _ rfl
            have f8 := J4.out.b8 _ rfl
            have e70 := f7.2.cell 0; have e71 := f7.2.cell 1; have z70 := f7.2.frozen 0; have z71 := f7.2.frozen 1
            have e80 := f8.2.cell 0; have e81 := f8.2.cell 1; have z80 := f8.2.frozen 0; have z81 := f8.2.frozen 1
            have hne := J4.out.ne _ _ rfl rfl
            have hne' := Ne.symm hne
            simp [zModelT] at e70 e71 e80 e81
            clear f7 f8
            go_simp
            refine hK.out _ _ (fun _ => ⟨(Below.cell ((J4.out.below.setCell (p := ⟨_, 0, none⟩) (J4.out.b7 _ rfl).1 _).setCell (p := ⟨_, 1, none⟩) (J4.out.b7 _ rfl).1 _) HA0.out).trans o0, (Below.cell ((J4.out.below.setCell (p := ⟨_, 0, none⟩) (J4.out.b7 _ rfl).1 _).setCell (p := ⟨_, 1, none⟩) (J4.out.b7 _ rfl).1 _) HA0.out).trans o1, (Below.cell ((J4.out.below.setCell (p := ⟨_, 0, none⟩) (J4.out.b7 _ rfl).1 _).setCell (p := ⟨_, 1, none⟩) (J4.out.b7 _ rfl).1 _) HA1.out).trans o2, (Below.cell ((J4.out.below.setCell (p := ⟨_, 0, none⟩) (J4.out.b7 _ rfl).1 _).setCell (p := ⟨_, 1, none⟩) (J4.out.b7 _ rfl).1 _) HA1.out).trans o3⟩) ?_
            clear hK K
            try simp only [Act.put, List.setIfInBounds_toArray, List.set_cons_zero, List.set_cons_succ, Nat.zero_add]
            refine wpAnyX_one (i := 7) rfl (by kernel_rfl) (fun K hK => ?_)
            go_simp
            refine hK.out _ _ (fun h => absurd rfl h) ?_
            clear hK K
            try simp only [Act.put, List.setIfInBounds_toArray, List.set_cons_zero, List.set_cons_succ, Nat.zero_add]
            refine wpAnyX_done (by kernel_rfl) ?_ _
            have HD := Lib.hid J4.out.done
            go_wp2_with fail
            go_meet
            case rel => exact ⟨_, _, _, _, _, _, rfl, rfl, HW0.out.trans (HD.out.1.mono (by rw [HWS.out]; exact Nat.le_refl _)), HD.out.2.1, HD.out.2.2.1, ⟨_, HD.out.2.2.2.1.choose_spec.1, fun c hc => by simpa using HD.out.2.2.2.1.choose_spec.2 c hc⟩, ⟨_, HD.out.2.2.2.2.choose_spec.1, fun c hc => by simpa using HD.out.2.2.2.2.choose_spec.2 c hc⟩⟩
        · go_simp
          obtain ⟨u2, hu2⟩ : ∃ u2 : World, u1.alloc (.cells #[.int .i64 0, .slice none 0 0] 27) = u2 := ⟨_, rfl⟩
          rw [hu2]
          have J2 : Hid (JT W0 u2 (some W0.heap.size) (some u1.heap.size) none none a b) := Lib.hid (by rw [← hu2]; exact J1.out.alloc8)
          clear hu2
          refine hK.out _ _ (fun _ => HS.out _ J2.out.below) ?_
          clear hK K
          try simp only [Act.put, List.setIfInBounds_toArray, List.set_cons_zero, List.set_cons_succ, Nat.zero_add]
          refine wpAnyX_one (i := 1) rfl (by kernel_rfl) (fun K hK => ?_)
          go_simp
          refine (HLA.out _ J2.out.below).mono ?_
          rintro _ wx ⟨_, rfl, ⟨_, rfl, Ax, cx, rfl, hmx⟩, hbx⟩
          have J3 := Lib.hid (J2.out.callx hbx ⟨_, rfl, Ax, cx, rfl, hmx⟩)
          clear hmx hbx
          go_simp
          refine hK.out _ _ (fun _ => HS.out _ J3.out.below) ?_
          clear hK K
          try simp only [Act.put, List.setIfInBounds_toArray, List.set_cons_zero, List.set_cons_succ, Nat.zero_add]
          refine wpAnyX_one (i := 3) rfl (by kernel_rfl) (fun K hK => ?_)
          go_simp
          refine (HLB.out _ J3.out.below).mono ?_
          rintro _ wy ⟨_, rfl, ⟨_, rfl, Ay, cy, rfl, hmy⟩, hby⟩
          have J4 := Lib.hid (J3.out.cally hby ⟨_, rfl, Ay, cy, rfl, hmy⟩)
          clear hmy hby
          go_simp
          refine hK.out _ _ (fun _ => HS.out _ J4.out.below) ?_
          clear hK K
          try simp only [Act.put, List.setIfInBounds_toArray, List.set_cons_zero, List.set_cons_succ, Nat.zero_add]
          refine wpAnyX_one (i := 6) rfl (by kernel_rfl) (fun K hK => ?_)
          have f7 := J4.out.b7 _ rfl
          have f8 := J4.out.b8 _ rfl
          have e70 := f7.2.cell 0; have e71 := f7.2.cell 1; have z70 := f7.2.frozen 0; have z71 := f7.2.frozen 1
          have e80 := f8.2.cell 0; have e81 := f8.2.cell 1; have z80 := f8.2.frozen 0; have z81 := f8.2.frozen 1
          have hne := J4.out.ne _ _ rfl rfl
          have hne' := Ne.symm hne
          simp [zModelT] at e70 e71 e80 e81
          clear f7 f8
          go_simp
          refine hK.out _ _ (fun _ => ⟨(Below.cell ((J4.out.below.setCell (p := ⟨_, 0, none⟩) (J4.out.b7 _ rfl).1 _).setCell (p := ⟨_, 1, none⟩) (J4.out.b7 _ rfl).1 _) HA0.out).trans o0, (Below.cell ((J4.out.below.setCell (p := ⟨_, 0, none⟩) (J4.out.b7 _ rfl).1 _).setCell (p := ⟨_, 1, none⟩) (J4.out.b7 _ rfl).1 _) HA0.out).trans o1, (Below.cell ((J4.out.below.setCell (p := ⟨_, 0, none⟩) (J4.out.b7 _ rfl).1 _).setCell (p := ⟨_, 1, none⟩) (J4.out.b7 _ rfl).1 _) HA1.out).trans o2, (Below.cell ((J4.out.below.setCell (p := ⟨_, 0, none⟩) (J4.out.b7 _ rfl).1 _).setCell (p := ⟨_, 1, none⟩) (J4.out.b7 _ rfl).1 _) HA1.out).trans o3⟩) ?_
          clear hK K
          try simp only [Act.put, List.setIfInBounds_toArray, List.set_cons_zero, List.set_cons_succ, Nat.zero_add]
          refine wpAnyX_one (i := 7) rfl (by kernel_rfl) (fun K hK => ?_)
          go_simp
          refine hK.out _ _ (fun h => absurd rfl h) ?_
          clear hK K
          try simp only [Act.put, List.setIfInBounds_toArray, List.set_cons_zero, List.set_cons_succ, Nat.zero_add]
          refine wpAnyX_done (by kernel_rfl) ?_ _
          have HD := Lib.hid J4.out.done
          go_wp2_with fail
          go_meet
          case rel => exact ⟨_, _, _, _, _, _, rfl, rfl, HW0.out.trans (HD.out.1.mono (by rw [HWS.out]; exact Nat.le_refl _)), HD.out.2.1, HD.out.2.2.1, ⟨_, HD.out.2.2.2.1.choose_spec.1, fun c hc => by simpa using HD.out.2.2.2.1.choose_spec.2 c hc⟩, ⟨_, HD.out.2.2.2.2.choose_spec.1, fun c hc => by simpa using HD.out.2.2.2.2.choose_spec.2 c hc⟩⟩
      · go_simp
        obtain ⟨u1, hu1⟩ : ∃ u1 : World, W0.alloc (.cells #[.int .i64 0, .slice none 0 0] 27) = u1 := ⟨_, rfl⟩
        rw [hu1]
        have J1 : Hid (JT W0 u1 none (some W0.heap.size) none none a b) := Lib.hid (by rw [← hu1]; exact J0.out.alloc8)
        clear hu1
        refine hK.out _ _ (fun _ => HS.out _ J1.out.below) ?_
        clear hK K
        try simp only [Act.put, List.setIfInBounds_toArray, List.set_cons_zero, List.set_cons_succ, Nat.zero_add]
        refine wpAnyX_two (i := 1) (j := 4) rfl rfl (by kernel_rfl) (fun K hK => ?_) (fun K hK => ?_)
        · go_simp
          refine (HLA.out _ J1.out.below).mono ?_
          rintro _ wx ⟨_, rfl, ⟨_, rfl, Ax, cx, rfl, hmx⟩, hbx⟩
          have J2 := Lib.hid (J1.out.callx hbx ⟨_, rfl, Ax, cx, rfl, hmx⟩)
          clear hmx hbx
          go_simp
          refine hK.out _ _ (fun _ => HS.out _ J2.out.below) ?_
          clear hK K
          try simp only [Act.put, List.setIfInBounds_toArray, List.set_cons_zero, List.set_cons_succ, Nat.zero_add]
          refine wpAnyX_two (i := 3) (j := 4) rfl rfl (by kernel_rfl) (fun K hK => ?_) (fun K hK => ?_)
          · go_simp
            refine (HLB.out _ J2.out.below).mono ?_
            rintro _ wy ⟨_, rfl, ⟨_, rfl, Ay, cy, rfl, hmy⟩, hby⟩
            have J3 := Lib.hid (J2.out.cally hby ⟨_, rfl, Ay, cy, rfl, hmy⟩)
            clear hmy hby
            go_simp
            refine hK.out _ _ (fun _ => HS.out _ J3.out.below) ?_
            clear hK K
            try simp only [Act.put, List.setIfInBounds_toArray, List.set_cons_zero, List.set_cons_succ, Nat.zero_add]
            refine wpAnyX_one (i := 4) rfl (by kernel_rfl) (fun K hK => ?_)
            go_simp
            obtain ⟨u4, hu4⟩ : ∃ u4 : World, wy.alloc (.cells #[.int .i64 0, .slice none 0 0] 27) = u4 := ⟨_, rfl⟩
            rw [hu4]
            have J4 : Hid (JT W0 u4 (some wy.heap.size) (some W0.heap.size) (some (.agg #[.int .i64 a.next, .slice Ax a.nodes.length cx])) (some (.agg #[.int .i64 b.next, .slice Ay b.nodes.length cy])) a b) := Lib.hid (by rw [← hu4]; exact J3.out.alloc7)
            clear hu4
            refine hK.out _ _ (fun _ => HS.out _ J4.out.below) ?_
            clear hK K
            try simp only [Act.put, List.setIfInBounds_toArray, List.set_cons_zero, List.set_cons_succ, Nat.zero_add]
            refine wpAnyX_one (i := 6) rfl (by kernel_rfl) (fun K hK => ?_)
            have f7 := J4.out.b7 _ rfl
            have f8 := J4.out.b8 _ rfl
            have e70 := f7.2.cell 0; have e71 := f7.2.cell 1; have z70 := f7.2.frozen 0; have z71 := f7.2.frozen 1
            have e80 := f8.2.cell 0; have e81 := f8.2.cell 1; have z80 := f8.2.frozen 0; have z81 := f8.2.frozen 1
            have hne := J4.out.ne _ _ rfl rfl
            have hne' := Ne.symm hne
            simp [zModelT] at e70 e71 e80 e81
            clear f7 f8
            go_simp
            refine hK.out _ _ (fun _ => ⟨(Below.cell ((J4.out.below.setCell (p := ⟨_, 0, none⟩) (J4.out.b7 _ rfl).1 _).setCell (p := ⟨_, 1, none⟩) (J4.out.b7 _ rfl).1 _) HA0.out).trans o0, (Below.cell ((J4.out.below.setCell (p := ⟨_, 0, none⟩) (J4.out.b7 _ rfl).1 _).setCell (p := ⟨_, 1, none⟩) (J4.out.b7 _ rfl).1 _) HA0.out).trans o1, (Below.cell ((J4.out.below.setCell (p := ⟨_, 0, none⟩) (J4.out.b7 _ rfl).1 _).setCell (p := ⟨_, 1, none⟩) (J4.out.b7 _ rfl).1 _) HA1.out).trans o2, (Below.cell ((J4.out.below.setCell (p := ⟨_, 0, none⟩) (J4.out.b7 _ rfl).1 _).setCell (p := ⟨_, 1, none⟩) (J4.out.b7 _ rfl).1 _) HA1.out).trans o3⟩) ?_
            clear hK K
            try simp only [Act.put, List.setIfInBounds_toArray, List.set_cons_zero, List.set_cons_succ, Nat.zero_add]
            refine wpAnyX_one (i := 7) rfl (by kernel_rfl) (fun K hK => ?_)
            go_simp
            refine hK.out _ _ (fun h => absurd rfl h) ?_
            clear hK K
            try simp only [Act.put, List.setIfInBounds_toArray, List.set_cons_zero, List.set_cons_succ, Nat.zero_add]
            refine wpAnyX_done (by kernel_rfl) ?_ _
            have HD := Lib.hid J4.out.done
            go_wp2_with fail
            go_meet
            case rel => exact ⟨_, _, _, _, _, _, rfl, rfl, HW0.out.trans (HD.out.1.mono (by rw [HWS.out]; exact Nat.le_refl _)), HD.out.2.1, HD.out.2.2.1, ⟨_, HD.out.2.2.2.1.choose_spec.1, fun c hc => by simpa using HD.out.2.2.2.1.choose_spec.2 c hc⟩, ⟨_, HD.out.2.2.2.2.choose_spec.1, fun c hc => by simpa using HD.out.2.2.2.2.choose_spec.2 c hc⟩⟩
          · go_simp
            obtain ⟨u3, hu3⟩ : ∃ u3 : World, wx.alloc (.cells #[.int .i64 0, .slice none 0 0] 27) = u3 := ⟨_, rfl⟩
            rw [hu3]
            have J3 : Hid (JT W0 u3 (some wx.heap.size) (some W0.heap.size) (some (.agg #[.int .i64 a.next, .slice Ax a.nodes.length cx])) none a b) := Lib.hid (by rw [← hu3]; exact J2.out.alloc7)
            clear hu3
            refine hK.out _ _ (fun _ => HS.out _ J3.out.below) ?_
            clear hK K
            try simp only [Act.put, List.setIfInBounds_toArray, List.set_cons_zero, List.set_cons_succ, Nat.zero_add]
            refine wpAnyX_one (i := 3) rfl (by kernel_rfl) (fun K hK => ?_)
            go_simp
            refine (HLB.out _ J3.out.below).mono ?_
            rintro _ wy ⟨_, rfl, ⟨_, rfl, Ay, cy, rfl, hmy⟩, hby⟩
            have J4 := Lib.hid (J3.out.cally hby ⟨_, rfl, Ay, cy, rfl, hmy⟩)
            clear hmy hby
            go_simp
            refine hK.out _ _ (fun _ => HS.out _ J4.out.below) ?_
            clear hK K
            try simp only [Act.put, List.setIfInBounds_toArray, List.set_cons_zero, List.set_cons_succ, Nat.zero_add]
            refine wpAnyX_one (i := 6) rfl (by kernel_rfl) (fun K hK => ?_)
            have f7 := J4.out.b7 _ rfl
            have f8 := J4.out.b8 _ rfl
            have e70 := f7.2.cell 0; have e71 := f7.2.cell 1; have z70 := f7.2.frozen 0; have z71 := f7.2.frozen 1
            have e80 := f8.2.cell 0; have e81 := f8.2.cell 1; have z80 := f8.2.frozen 0; have z81 := f8.2.frozen 1
            have hne := J4.out.ne _ _ rfl rfl
            have hne' := Ne.symm hne
            simp [zModelT] at e70 e71 e80 e81
            clear f7 f8
            go_simp
            refine hK.out _ _ (fun _ => ⟨(Below.cell ((J4.out.below.setCell (p := ⟨_, 0, none⟩) (J4.out.b7 _ rfl).1 _).setCell (p := ⟨_, 1, none⟩) (J4.out.b7 _ rfl).1 _) HA0.out).trans o0, (Below.cell ((J4.out.below.setCell (p := ⟨_, 0, none⟩) (J4.out.b7 _ rfl).1 _).setCell (p := ⟨_, 1, none⟩) (J4.out.b7 _ rfl).1 _) HA0.out).trans o1, (Below.cell ((J4.out.below.setCell (p := ⟨_, 0, none⟩) (J4.out.b7 _ rfl).1 _).setCell (p := ⟨_, 1, none⟩) (J4.out.b7 _ rfl).1 _) HA1.out).trans o2, (Below.cell ((J4.out.below.setCell (p := ⟨_, 0, none⟩) (J4.out.b7 _ rfl).1 _).setCell (p := ⟨_, 1, none⟩) (J4.out.b7 _ rfl).1 _) HA1.out).trans o3⟩) ?_
            clear hK K
            try simp only [Act.put, List.setIfInBounds_toArray, List.set_cons_zero, List.set_cons_succ, Nat.zero_add]
            refine wpAnyX_one (i := 7) rfl (by kernel_rfl) (fun K hK => ?_)
            go_simp
            refine hK.out _ _ (fun h => absurd rfl h) ?_
            clear hK K
            try simp only [Act.put, List.setIfInBounds_toArray, List.set_cons_zero, List.set_cons_succ, Nat.zero_add]
            refine wpAnyX_done (by kernel_rfl) ?_ _
            have HD := Lib.hid J4.out.done
            go_wp2_with fail
            go_meet
            case rel => exact ⟨_, _, _, _, _, _, rfl, rfl, HW0.out.trans (HD.out.1.mono (by rw [HWS.out]; exact Nat.le_refl _)), HD.out.2.1, HD.out.2.2.1, ⟨_, HD.out.2.2.2.1.choose_spec.1, fun c hc => by simpa using HD.out.2.2.2.1.choose_spec.2 c hc⟩, ⟨_, HD.out.2.2.2.2.choose_spec.1, fun c hc => by simpa using HD.out.2.2.2.2.choose_spec.2 c hc⟩⟩
        · go_simp
          obtain ⟨u2, hu2⟩ : ∃ u2 : World, u1.alloc (.cells #[.int .i64 0, .slice none 0 0] 27) = u2 := ⟨_, rfl⟩
          rw [hu2]
          have J2 : Hid (JT W0 u2 (some u1.heap.size) (some W0.heap.size) none none a b) := Lib.hid (by rw [← hu2]; exact J1.out.alloc7)
          clear hu2
          refine hK.out _ _ (fun _ => HS.out _ J2.out.below) ?_
          clear hK K
          try simp only [Act.put, List.setIfInBounds_toArray, List.set_cons_zero, List.set_cons_succ, Nat.zero_add]
          refine wpAnyX_one (i := 1) rfl (by kernel_rfl) (fun K hK => ?_)
          go_simp
          refine (HLA.out _ J2.out.below).mono ?_
          rintro _ wx ⟨_, rfl, ⟨_, rfl, Ax, cx, rfl, hmx⟩, hbx⟩
          have J3 := Lib.hid (J2.out.callx hbx ⟨_, rfl, Ax, cx, rfl, hmx⟩)
          clear hmx hbx
          go_simp
          refine hK.out _ _ (fun _ => HS.out _ J3.out.below) ?_
          clear hK K
          try simp only [Act.put, List.setIfInBounds_toArray, List.set_cons_zero, List.set_cons_succ, Nat.zero_add]
          refine wpAnyX_one (i := 3) rfl (by kernel_rfl) (fun K hK => ?_)
          go_simp
          refine (HLB.out _ J3.out.below).mono ?_
          rintro _ wy ⟨_, rfl, ⟨_, rfl, Ay, cy, rfl, hmy⟩, hby⟩
          have J4 := Lib.hid (J3.out.cally hby ⟨_, rfl, Ay, cy, rfl, hmy⟩)
          clear hmy hby
          go_simp
          refine hK.out _ _ (fun _ => HS.out _ J4.out.below) ?_
          clear hK K
          try simp only [Act.put, List.setIfInBounds_toArray, List.set_cons_zero, List.set_cons_succ, Nat.zero_add]
          refine wpAnyX_one (i := 6) rfl (by kernel_rfl) (fun K hK => ?_)
          have f7 := J4.out.b7 _ rfl
          have f8 := J4.out.b8 _ rfl
          have e70 := f7.2.cell 0; have e71 := f7.2.cell 1; have z70 := f7.2.frozen 0; have z71 := f7.2.frozen 1
          have e80 := f8.2.cell 0; have e81 := f8.2.cell 1; have z80 := f8.2.frozen 0; have z81 := f8.2.frozen 1
          have hne := J4.out.ne _ _ rfl rfl
          have hne' := Ne.symm hne
          simp [zModelT] at e70 e71 e80 e81
          clear f7 f8
          go_simp
          refine hK.out _ _ (fun _ => ⟨(Below.cell ((J4.out.below.setCell (p := ⟨_, 0, none⟩) (J4.out.b7 _ rfl).1 _).setCell (p := ⟨_, 1, none⟩) (J4.out.b7 _ rfl).1 _) HA0.out).trans o0, (Below.cell ((J4.out.below.setCell (p := ⟨_, 0, none⟩) (J4.out.b7 _ rfl).1 _).setCell (p := ⟨_, 1, none⟩) (J4.out.b7 _ rfl).1 _) HA0.out).trans o1, (Below.cell ((J4.out.below.setCell (p := ⟨_, 0, none⟩) (J4.out.b7 _ rfl).1 _).setCell (p := ⟨_, 1, none⟩) (J4.out.b7 _ rfl).1 _) HA1.out).trans o2, (Below.cell ((J4.out.below.setCell (p := ⟨_, 0, none⟩) (J4.out.b7 _ rfl).1 _).setCell (p := ⟨_, 1, none⟩) (J4.out.b7 _ rfl).1 _) HA1.out).trans o3⟩) ?_
          clear hK K
          try simp only [Act.put, List.setIfInBounds_toArray, List.set_cons_zero, List.set_cons_succ, Nat.zero_add]
          refine wpAnyX_one (i := 7) rfl (by kernel_rfl) (fun K hK => ?_)
          go_simp
          refine hK.out _ _ (fun h => absurd rfl h) ?_
          clear hK K
          try simp only [Act.put, List.setIfInBounds_toArray, List.set_cons_zero, List.set_cons_succ, Nat.zero_add]
          refine wpAnyX_done (by kernel_rfl) ?_ _
          have HD := Lib.hid J4.out.done
          go_wp2_with fail
          go_meet
          case rel => exact ⟨_, _, _, _, _, _, rfl, rfl, HW0.out.trans (HD.out.1.mono (by rw [HWS.out]; exact Nat.le_refl _)), HD.out.2.1, HD.out.2.2.1, ⟨_, HD.out.2.2.2.1.choose_spec.1, fun c hc => by simpa using HD.out.2.2.2.1.choose_spec.2 c hc⟩, ⟨_, HD.out.2.2.2.2.choose_spec.1, fun c hc => by simpa using HD.out.2.2.2.2.choose_spec.2 c hc⟩⟩
    case rest =>
      obtain ⟨p, q, Ax, Ay, cx, cy, rfl, rfl, hb, hbp, hbq, ⟨F, hx, hF⟩, ⟨F', hy, hF'⟩⟩ := hcut
      clear HLA HLB o0 o1 o2 o3
      have HB3 := Lib.hid (HB.out.trans (hb.mono HB.out.size))
      have HM3 := Lib.hid (HM.out.below hb hmlt); have HN3 := Lib.hid (HN.out.below hb hnlt)
      have HP3 := Lib.hid hbp; have HQ3 := Lib.hid hbq
      have HBC3 : Hid (Below wc.heap.size wc wc) := Lib.hid (Below.refl _ _)
      obtain ⟨_, ex, A1, c1, ex2, x1, x2, rx⟩ := hx
      obtain ⟨_, ey, A2, c2, ey2, y1, y2, ry⟩ := hy
      simp only [Value.agg.injEq, Array.mk.injEq, List.cons.injEq, true_and, and_true] at ex ey
      subst ex ey
      injection ex2 with f1 _ f2
      injection ey2 with f3 _ f4
      subst f1 f2 f3 f4
      have HRX := Lib.hid (fun (w0 : World) (hb0 : Below wc.heap.size wc w0) => RowOf.keep ENode.stays (Keep.below hb0 fun _ h => h) (F' := fun b => b < wc.heap.size) (fun _ h => h) (RowOf.keep ENode.stays (Keep.refl _ _) hF rx))
      have HRY := Lib.hid (fun (w0 : World) (hb0 : Below wc.heap.size wc w0) => RowOf.keep ENode.stays (Keep.below hb0 fun _ h => h) (F' := fun b => b < wc.heap.size) (fun _ h => h) (RowOf.keep ENode.stays (Keep.refl _ _) hF' ry))
      have HLC := Lib.hid (fun (w0 : World) (hb0 : Below wc.heap.size wc w0) (b : Nat) (hb : b < wc.heap.size) => Nat.lt_of_lt_of_le hb hb0.size)
      clear rx ry hb hbp hbq x1 x2 y1 y2 hF hF' HB HM HN hmlt hnlt
      have e70 := HP3.out.cell 0; have e71 := HP3.out.cell 1; have e80 := HQ3.out.cell 0; have e81 := HQ3.out.cell 1
      simp at e70 e71 e80 e81
      have hplt := HP3.out.lt; have hqlt := HQ3.out.lt
      go_wp2_with fail
      clear e70 e71 e80 e81 hplt hqlt
      refine (htouched_any Ax Ay cx cy a b wc (fun b => b < wc.heap.size) (fun _ h => h) (HRX.out _ HBC3.out) (HRY.out _ HBC3.out) HZA.out HZB.out).mono ?_
      rintro _ w4 ⟨v4, rfl, ho4, hb4⟩
      obtain ⟨Al, cl, rfl⟩ := ho4.shape
      have HL4 := Lib.hid ho4
      clear ho4
      have HB4 := Lib.hid (HB3.out.trans (hb4.mono HB3.out.size))
      have HM4 := Lib.hid (HM3.out.below hb4 HM3.out.lt)
      have HN4 := Lib.hid (HN3.out.below hb4 HN3.out.lt)
      have HP4 := Lib.hid (HP3.out.below hb4 HP3.out.lt)
      have HQ4 := Lib.hid (HQ3.out.below hb4 HQ3.out.lt)
      have HBC4 := Lib.hid (HBC3.out.trans (hb4.mono HBC3.out.size))
      clear hb4 HB3 HBC3 HM3 HN3 HP3 HQ3
      have o0 := HM4.out.cell 0; have o1 := HM4.out.cell 1; have o2 := HN4.out.cell 0; have o3 := HN4.out.cell 1
      simp at o0 o1 o2 o3
      have hmlt := HM4.out.lt; have hnlt := HN4.out.lt
      go_wp2_with fail
      clear o0 o1 o2 o3 hmlt hnlt
      refine (rtouched_any A B c d1 a b w4 (fun b => b < w.heap.size) (HLW.out _ HB4.out) (HRA.out _ HB4.out) (HRB.out _ HB4.out) HZA.out HZB.out).mono ?_
      rintro _ w5 ⟨v5, rfl, ho5, hb5⟩
      obtain ⟨Am, cm, rfl⟩ := ho5.shape
      have HR5 := Lib.hid ho5
      clear ho5
      have HB5 := Lib.hid (HB4.out.trans (hb5.mono HB4.out.size))
      have HM5 := Lib.hid (HM4.out.below hb5 HM4.out.lt)
      have HN5 := Lib.hid (HN4.out.below hb5 HN4.out.lt)
      have HP5 := Lib.hid (HP4.out.below hb5 HP4.out.lt)
      have HQ5 := Lib.hid (HQ4.out.below hb5 HQ4.out.lt)
      have HL5 := Lib.hid (HL4.out.below hb5)
      have HBC5 := Lib.hid (HBC4.out.trans (hb5.mono HBC4.out.size))
      clear hb5 HB4 HBC4 HM4 HN4 HP4 HQ4 HL4
      have HLL : Hid ((touchL a b).length ≤ 9223372036854775807) := Lib.hid (touchL_len hna hnb)
      obtain ⟨L, hL⟩ : ∃ L, touchL a b = L := ⟨_, rfl⟩
      obtain ⟨E, hE⟩ : ∃ E, touchE a b = E := ⟨_, rfl⟩
      rw [hL] at HL5 HR5 HLL
      rw [hL, hE]
      clear hL hE
      have heq : (E == E) = true := beq_self_eq_true _
      go_wp2_with fail
      have hCI : Calls Try.prog 28 #[.slice Al L.length cl, .slice Am L.length cm] w5 fun e w' => e = .returned (.bool true) ∧ Below w5.heap.size w5 w' := (res_is (eqB_yes rfl) (ints_any Al Am cl cm L L w5 (fun b => b < w5.heap.size) (fun b => b < w5.heap.size) (HL5.out.isRow (fun b _ h => h)).row (HR5.out.isRow (fun b _ h => h)).row HLL.out)).mono (fun e w' ⟨h, n, hn⟩ => ⟨h, by subst hn; exact ⟨rfl, rfl, rfl, Nat.le_refl _, fun _ _ => rfl⟩⟩)
      refine hCI.mono ?_
      rintro _ w6 ⟨rfl, hb6⟩
      clear hCI HL5 HR5
      have HB6 := Lib.hid (HB5.out.trans (hb6.mono HB5.out.size))
      have HM6 := Lib.hid (HM5.out.below hb6 HM5.out.lt)
      have HN6 := Lib.hid (HN5.out.below hb6 HN5.out.lt)
      have HP6 := Lib.hid (HP5.out.below hb6 HP5.out.lt)
      have HQ6 := Lib.hid (HQ5.out.below hb6 HQ5.out.lt)
      have HBC6 := Lib.hid (HBC5.out.trans (hb6.mono HBC5.out.size))
      clear hb6 HB5 HBC5 HM5 HN5 HP5 HQ5
      have e70 := HP6.out.cell 0; have e71 := HP6.out.cell 1; have e80 := HQ6.out.cell 0; have e81 := HQ6.out.cell 1
      simp at e70 e71 e80 e81
      have hplt := HP6.out.lt; have hqlt := HQ6.out.lt
      have o0 := HM6.out.cell 0; have o1 := HM6.out.cell 1; have o2 := HN6.out.cell 0; have o3 := HN6.out.cell 1
      simp at o0 o1 o2 o3
      have hmlt := HM6.out.lt; have hnlt := HN6.out.lt
      go_wp2_with fail
      refine (res_is (eqB_yes rfl) (same_any Ax A cx c a a w6 (fun b => b < wc.heap.size) (fun b => b < w.heap.size) (HLC.out _ HBC6.out) (HLW.out _ HB6.out) (HRX.out _ HBC6.out) (HRA.out _ HB6.out) (by omega))).mono ?_
      rintro _ w7 ⟨rfl, hb7⟩
      clear e70 e71 e80 e81 hplt hqlt o0 o1 o2 o3 hmlt hnlt
      have HB7 := Lib.hid (HB6.out.trans (hb7.mono HB6.out.size))
      have HM7 := Lib.hid (HM6.out.below hb7 HM6.out.lt)
      have HN7 := Lib.hid (HN6.out.below hb7 HN6.out.lt)
      have HP7 := Lib.hid (HP6.out.below hb7 HP6.out.lt)
      have HQ7 := Lib.hid (HQ6.out.below hb7 HQ6.out.lt)
      have HBC7 := Lib.hid (HBC6.out.trans (hb7.mono HBC6.out.size))
      clear hb7 HB6 HBC6 HM6 HN6 HP6 HQ6
      have e70 := HP7.out.cell 0; have e71 := HP7.out.cell 1; have e80 := HQ7.out.cell 0; have e81 := HQ7.out.cell 1
      simp at e70 e71 e80 e81
      have hplt := HP7.out.lt; have hqlt := HQ7.out.lt
      have o0 := HM7.out.cell 0; have o1 := HM7.out.cell 1; have o2 := HN7.out.cell 0; have o3 := HN7.out.cell 1
      simp at o0 o1 o2 o3
      have hmlt := HM7.out.lt; have hnlt := HN7.out.lt
      go_wp2_with fail
      refine (res_is (eqB_yes rfl) (same_any Ay B cy d1 b b w7 (fun b => b < wc.heap.size) (fun b => b < w.heap.size) (HLC.out _ HBC7.out) (HLW.out _ HB7.out) (HRY.out _ HBC7.out) (HRB.out _ HB7.out) (by omega))).mono ?_
      rintro _ w8 ⟨rfl, hb8⟩
      clear e70 e71 e80 e81 hplt hqlt o0 o1 o2 o3 hmlt hnlt
      have HB8 := Lib.hid (HB7.out.trans (hb8.mono HB7.out.size))
      have HM8 := Lib.hid (HM7.out.below hb8 HM7.out.lt)
      have HN8 := Lib.hid (HN7.out.below hb8 HN7.out.lt)
      have HP8 := Lib.hid (HP7.out.below hb8 HP7.out.lt)
      have HQ8 := Lib.hid (HQ7.out.below hb8 HQ7.out.lt)
      have HBC8 := Lib.hid (HBC7.out.trans (hb8.mono HBC7.out.size))
      clear hb8 HB7 HBC7 HM7 HN7 HP7 HQ7
      go_wp2
      go_ret
      exact ⟨by simp, HB8.out⟩
end Go.Proofs.Ytpjkifbicfcajaa
