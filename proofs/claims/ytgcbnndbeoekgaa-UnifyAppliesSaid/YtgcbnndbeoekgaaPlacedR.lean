/- a term's text with what stands for holes in their places, as the document has it -/
import Derived.Test.YtgcbnndbeoekgaaMayR
import Derived.Test.YtgcbnndbeoekgaaBndP
set_option linter.unusedSimpArgs false
set_option linter.unusedVariables false
namespace Go.Proofs.Ytgcbnndbeoekgaa
open Go Go.RowKit

theorem flat_names : ∀ (T : Fo) (o : Nat), T.wf → ∀ t ∈ T.flat o, t.name.size ≤ 32
  | .nil, _, _, t, h => by cases h
  | .hole n r, o, hw, t, h => by
    rcases List.mem_cons.1 h with e | e
    · subst e; show ByteArray.empty.size ≤ 32; decide
    · exact flat_names r _ hw.2.2 t e
  | .app nm k r, o, hw, t, h => by
    rcases List.mem_cons.1 h with e | e
    · subst e; exact name_len hw.1
    · rcases List.mem_append.1 e with e | e
      · exact flat_names k _ hw.2.1 t e
      · exact flat_names r _ hw.2.2 t e

set_option maxRecDepth 100000 in
set_option maxHeartbeats 4000000 in
theorem rplaced_any (d : Nat) : ∀ (A2 : Option Addr) (c2 : Nat) (bd : List ABind) (bs : List (Nat × Fo)) (A : Option Addr) (c : Nat) (l : List TN) (T : Fo) (o : Nat) (w : World) (F : Nat → Prop), Bnd bd bs → T.size ≤ d → T.one → T.wf → Seg l o T → (T.sub (lookB bs)).size ≤ 256 → l.length ≤ 256 → l.length ≤ c → c ≤ maxLen → bd.length ≤ c2 → c2 ≤ maxLen → (∀ b, F b → b < w.heap.size) → RowOf 3 ETN w F A l → RowOf 2 EBind w F A2 bd →
    Calls Try.prog 31 #[.slice A2 bd.length c2, .slice A l.length c, .int .i64 o] w fun e w' => e = .returned (.string (byt ((T.sub (lookB bs)).txt false))) ∧ Below w.heap.size w w' := by
  induction d with
  | zero => intro A2 c2 bd bs A c l T o w F _ hd h1; have := Fo.one_size h1; omega
  | succ d ih =>
    intro A2 c2 bd bs A c l T o w F hbd hd h1 hw hsg hss hl hlc hc hlc2 hc2 hF hr hrb
    have hTs := hsg.le (Fo.one_size h1)
    have hol : o < l.length := by have := Fo.one_size h1; omega
    obtain ⟨b, off, S, k, rfl, hbF, d0, d1, d2, hk1, hk2, hrow⟩ := nodes_at hr hol
    have hbw := hF b hbF
    have o0 : (0 : Int) ≤ o := by omega
    have o1 : (o : Int) < l.length := by omega
    have hcc := hc
    have hcc2 := hc2
    unfold maxLen at hc hc2
    have HTEXT : Hid (∀ w', Below w.heap.size w w' → Calls Try.prog 45 #[.slice (some ⟨b, off, none⟩) l.length c, .int .i64 o] w' fun e w2 => e = .returned (.string (byt (T.txt false))) ∧ Below w'.heap.size w' w2) := Lib.hid (fun w' hb => rtext_any T.size _ c l T o w' F (Nat.le_refl _) h1 hw hsg hl hlc hcc (fun b h => Nat.lt_of_lt_of_le (hF b h) hb.size) (hr.keep ETN.stays (Keep.below hb hF) (fun _ h => h)))
    rcases Fo.one_cases h1 with ⟨n, rfl⟩ | ⟨nm, K, rfl⟩
    · obtain ⟨_, hat⟩ := hsg.hole
      obtain ⟨hn1, hn2, _⟩ := hw
      rw [hat] at d0 d1 d2 hk1
      simp only [List.length_nil] at d0 d1 d2 hk1
      have n0 : (0 : Int) < n := by omega
      have n0' : 0 < n := by omega
      cases hlook : lookB bs n with
      | some Y =>
        obtain ⟨m, hm, hm1, hm2, hm3⟩ := hbd.at_ hlook
        obtain ⟨y1, y2, y3, y4, y5⟩ := hbd.some_ hlook
        obtain ⟨b3, off3, S3, k3, rfl, _, _, z1, zk1, zk2, zrow⟩ := bind_at hrb hm
        rw [hm2] at z1 zk1 zrow
        have HFD := Lib.hid (fun w' (hb : Below w.heap.size w w') => rfind_yes b3 off3 c2 bd (n : Int) w' F (fun b h => Nat.lt_of_lt_of_le (hF b h) hb.size) (hrb.keep EBind.stays (Keep.below hb hF) (fun _ h => h)) hlc2 hcc2 m hm hm1 hm3 S3 (Y.flat 0).length k3 ((hb.cell (p := ⟨b3, off3 + m * 2 + 1, none⟩) (hF _ (by obtain ⟨b', off', e, h⟩ := hrb.1 (by intro e; rw [e] at hm; simp at hm); cases e; exact h))).trans z1))
        have HPR : Hid (∀ w', Below w.heap.size w w' → Calls Try.prog 44 #[.agg #[.slice S3 (Y.flat 0).length k3]] w' fun e w2 => e = .returned (.string (byt (Y.txt false))) ∧ Below w'.heap.size w' w2) := Lib.hid (fun w' hb => rprint_any S3 k3 Y w' F (fun b h => Nat.lt_of_lt_of_le (hF b h) hb.size) y2 y3 y4 zk1 zk2 (zrow.keep ETN.stays (Keep.below hb hF) (fun _ h => h)) y5 (fun t ht => by have := flat_names Y 0 y3 t ht; omega))
        have HRES : Hid (byt (Y.txt false) = byt (((Fo.hole n .nil).sub (lookB bs)).txt false)) := Lib.hid (by rw [Fo.sub_hole, stood_some hlook])
        obtain ⟨yl, hyl⟩ : ∃ yl, (Y.flat 0).length = yl := ⟨_, rfl⟩
        rw [hyl] at HFD HPR
        clear ih hrow hat hr hTs hsg hd h1 hlook hm1 hm2 hm3 y1 y2 y3 y4 y5 z1 zk1 zrow hyl hbd hss hrb HTEXT
        go_enter Try.func31, Try.ntmps31
        go_wp2_with fail
        refine (HFD.out _ ((Below.refl _ _).alloc (Nat.le_refl _) _)).mono ?_
        rintro _ w2 ⟨rfl, hb2⟩
        have HB2 : Hid (Below w.heap.size w w2) := Lib.hid (((Below.refl w.heap.size w).alloc (Nat.le_refl _) _).trans (hb2.mono (by simp)))
        clear hb2 d0 d1 d2
        go_wp2_with fail
        refine (HPR.out _ (HB2.out.alloc HB2.out.size _)).mono ?_
        rintro _ w3 ⟨rfl, hb3⟩
        have HB3 := Lib.hid ((HB2.out.alloc HB2.out.size (.cells #[.slice S3 yl k3] 24)).trans (hb3.mono (by have := HB2.out.size; simp; omega)))
        clear hb3
        go_wp2
        go_ret
        exact ⟨by rw [← HRES.out]; rfl, HB3.out⟩
      | none =>
        have HFD := Lib.hid (fun w' (hb : Below w.heap.size w w') => rfind_no A2 c2 bd (n : Int) w' F (fun b h => Nat.lt_of_lt_of_le (hF b h) hb.size) (hrb.keep EBind.stays (Keep.below hb hF) (fun _ h => h)) hlc2 hcc2 (hbd.no hlook))
        have HRES : Hid (byt ((Fo.hole n .nil).txt false) = byt (((Fo.hole n .nil).sub (lookB bs)).txt false)) := Lib.hid (by rw [Fo.sub_hole, stood_none hlook])
        clear ih hrow hat hr hTs hsg hd h1 hlook hbd hss hrb
        go_enter Try.func31, Try.ntmps31
        go_wp2_with fail
        refine (HFD.out _ ((Below.refl _ _).alloc (Nat.le_refl _) _)).mono ?_
        rintro _ w2 ⟨rfl, hb2⟩
        have HB2 : Hid (Below w.heap.size w w2) := Lib.hid (((Below.refl w.heap.size w).alloc (Nat.le_refl _) _).trans (hb2.mono (by simp)))
        have HT2 := (Blk.new w 66 #[.int .i64 n, .string ByteArray.empty, .slice S 0 k]).below hb2 (by simp)
        have t0 := HT2.cell 0
        have htl := HT2.lt
        simp at t0
        clear hb2 d0 d1 d2 HT2
        go_wp2_with fail
        refine (HTEXT.out _ (HB2.out.alloc HB2.out.size _)).mono ?_
        rintro _ w3 ⟨rfl, hb3⟩
        have HB3 := Lib.hid ((HB2.out.alloc HB2.out.size (.cells #[.slice none 0 0] 24)).trans (hb3.mono (by have := HB2.out.size; simp; omega)))
        clear hb3 t0
        go_wp2
        go_ret
        exact ⟨by rw [← HRES.out]; rfl, HB3.out⟩
    · obtain ⟨⟨_, hat⟩, hsK⟩ := hsg.app
      rw [hat] at d0 d1 d2 hk1 hrow
      simp only at d0 d1 d2 hk1 hrow
      obtain ⟨hn1, hwK, _⟩ := hw
      have hones := hbd.ones
      have hKs : K.size ≤ d ∧ (K.sub (lookB bs)).size ≤ 256 := by
        have e : (Fo.app nm K .nil).size = 1 + K.size + 0 := rfl
        have e2 : ((Fo.app nm K .nil).sub (lookB bs)).size = 1 + (K.sub (lookB bs)).size + 0 := rfl
        omega
      obtain ⟨hKd, hK6⟩ := hKs
      have HFD := Lib.hid (fun w' (hb : Below w.heap.size w w') => rfind_no A2 c2 bd ((0 : Nat) : Int) w' F (fun b h => Nat.lt_of_lt_of_le (hF b h) hb.size) (hrb.keep EBind.stays (Keep.below hb hF) (fun _ h => h)) hlc2 hcc2 (hbd.no hbd.none_zero))
      have HREC : Hid (∀ (T' : Fo) (o' : Nat) (w' : World), Below w.heap.size w w' → T'.size ≤ d → T'.one → T'.wf → Seg l o' T' → (T'.sub (lookB bs)).size ≤ 256 → Calls Try.prog 31 #[.slice A2 bd.length c2, .slice (some ⟨b, off, none⟩) l.length c, .int .i64 o'] w' fun e w2 => e = .returned (.string (byt ((T'.sub (lookB bs)).txt false))) ∧ Below w'.heap.size w' w2) := Lib.hid (fun T' o' w' hb a1 a2 a3 a4 a5 => ih A2 c2 bd bs _ c l T' o' w' F hbd a1 a2 a3 a4 a5 hl hlc hcc hlc2 hcc2 (fun b h => Nat.lt_of_lt_of_le (hF b h) hb.size) (hr.keep ETN.stays (Keep.below hb hF) (fun _ h => h)) (hrb.keep EBind.stays (Keep.below hb hF) (fun _ h => h)))
      have HP0 : Hid (Part l o K .nil K 0) := Lib.hid (Part.start hwK hsK)
      have HOF : Hid ((K.offs (o + 1)).length = K.cnt) := Lib.hid (Fo.offs_len K (o + 1))
      have HNX : Hid (∀ A R k, Part l o K A R k → k < (K.offs (o + 1)).length → ∃ T r, T.one ∧ T.wf ∧ Seg l (o + 1 + A.size) T ∧ (∃ hk' : k < (K.offs (o + 1)).length, (K.offs (o + 1))[k] = ((o + 1 + A.size : Nat) : Int)) ∧ Part l o K (A.app2 T) r (k + 1) ∧ T.size + A.size ≤ K.size) := Lib.hid (fun A R k h hk => h.next (by rw [← HOF.out]; exact hk))
      have HONE := Lib.hid hones
      have HEND : Hid (K.cnt ≠ 0 → nm.data.toList ++ [40] ++ (K.sub (lookB bs)).txt false ++ [41] = ((Fo.app nm K .nil).sub (lookB bs)).txt false) := Lib.hid (fun h => (sub_txt_end hones nm h).symm)
      have HNIL : Hid (K.cnt = 0 → byt ((Fo.app nm K .nil).txt false) = byt (((Fo.app nm K .nil).sub (lookB bs)).txt false)) := Lib.hid (fun h => by rw [Fo.cnt_nil h]; rfl)
      have HWF : Hid (∀ A R k, Part l o K A R k → (A.sub (lookB bs)).wf ∧ (A.sub (lookB bs)).size ≤ 256) := Lib.hid (fun A R k h => ⟨sub_wf_part hones hwK h, Nat.le_trans (sub_size_part h) hK6⟩)
      have hnl := name_len hn1
      have HNM : Hid (nm.data.toList.length ≤ 32) := Lib.hid hnl
      obtain ⟨la, hla⟩ : ∃ la, K.offs (o + 1) = la := ⟨_, rfl⟩
      rw [hla] at d2 hk1 hrow HOF
      have HNX : Hid (∀ A R k, Part l o K A R k → k < la.length → ∃ T r, T.one ∧ T.wf ∧ Seg l (o + 1 + A.size) T ∧ (∃ hk' : k < la.length, la[k] = ((o + 1 + A.size : Nat) : Int)) ∧ Part l o K (A.app2 T) r (k + 1) ∧ T.size + A.size ≤ K.size) := Lib.hid (by subst hla; exact HNX.out)
      have HROW := Lib.hid hrow
      have hkm := hk2
      unfold maxLen at hkm
      clear hat hla hr ih hTs hsg hd h1 hrow hk2 hsK hwK hn1 hbd hones hss hrb
      go_enter Try.func31, Try.ntmps31
      go_wp2_with fail
      refine (HFD.out _ ((Below.refl _ _).alloc (Nat.le_refl _) _)).mono ?_
      rintro _ u ⟨rfl, hb2⟩
      have HB2 : Hid (Below w.heap.size w u) := Lib.hid (((Below.refl w.heap.size w).alloc (Nat.le_refl _) _).trans (hb2.mono (by simp)))
      have HT2 := Lib.hid ((Blk.new w 66 #[.int .i64 0, .string nm, .slice S la.length k]).below hb2 (by simp))
      have t0 := HT2.out.cell 0; have t1 := HT2.out.cell 1; have t2 := HT2.out.cell 2
      have htl := HT2.out.lt
      simp at t0 t1 t2
      clear hb2 d0 d1 d2
      by_cases hz : la.length = 0
      · have HZ := Lib.hid hz
        have HRES := Lib.hid (HNIL.out (by rw [← HOF.out]; exact hz))
        rw [hz] at t2
        clear hz
        go_wp2_with fail
        refine (HTEXT.out _ (HB2.out.alloc HB2.out.size _)).mono ?_
        rintro _ w3 ⟨rfl, hb3⟩
        have HB3 := Lib.hid ((HB2.out.alloc HB2.out.size (.cells #[.slice none 0 0] 24)).trans (hb3.mono (by have := HB2.out.size; simp; omega)))
        clear hb3 t0 t1 t2
        go_wp2
        go_ret
        exact ⟨by rw [← HRES.out]; rfl, HB3.out⟩
      · have e1 : ((la.length : Int) == 0) = false := beq_eq_false_iff_ne.2 (by omega)
        have HRES := Lib.hid (HEND.out (by rw [← HOF.out]; exact hz))
        have HZ := Lib.hid hz
        clear hz HTEXT
        go_upto_region 9 with fail
        have HB3 := Lib.hid (HB2.out.alloc HB2.out.size (.cells #[.slice none 0 0] 24))
        have HT3 := Lib.hid (HT2.out.alloc (.cells #[.slice none 0 0] 24))
        clear t0 t1 t2 htl HB2 HT2
        go_loopg [10, 11] la.length (fun g s10 s11 wx => ∃ (j : Nat) (B R : Fo), s11 = .int .i64 j ∧ s10 = .string (byt (nm.data.toList ++ [40] ++ (B.sub (lookB bs)).txt false)) ∧ g = la.length - j ∧ j ≤ la.length ∧ Part l o K B R j ∧ Below w.heap.size w wx ∧ Blk wx w.heap.size 66 #[.int .i64 0, .string nm, .slice S la.length k])
        case atStart => exact ⟨0, .nil, K, rfl, by rw [show ((Fo.nil.sub (lookB bs)).txt false) = [] from rfl, List.append_nil, ← byt_app]; rfl, rfl, Nat.zero_le _, HP0.out, HB3.out, HT3.out⟩
        case round =>
          clear HB3 HT3
          obtain ⟨j, B, R, rfl, rfl, rfl, hj, hP, hb, ht⟩ := hrel
          have HB := Lib.hid hb; have HT := Lib.hid ht; have HP := Lib.hid hP
          have t2 := ht.cell 2
          simp at t2
          have hlt := ht.lt
          have j0 : (0 : Int) ≤ j := by omega
          have HXL : Hid ((nm.data.toList ++ [40] ++ (B.sub (lookB bs)).txt false).length ≤ 20000) := Lib.hid (by
            obtain ⟨e1, e2⟩ := HWF.out B R j hP
            have := Fo.txt_le (B.sub (lookB bs)) false e1
            have := HNM.out
            simp only [List.length_append, List.length_cons, List.length_nil]; omega)
          by_cases hjl : j < la.length
          · obtain ⟨T', r, q1, q2, q3, ⟨q4, q5⟩, q6, q7⟩ := HNX.out B R j hP hjl
            obtain ⟨g, o2, rfl, hgF, a1⟩ := ints_at (RowOf.keep EInt.stays (Keep.below hb hF) (F' := F) (fun _ h => h) HROW.out) hjl
            rw [q5] at a1
            have hsT : (T'.sub (lookB bs)).size ≤ 256 := by have := sub_size_in (σ := lookB bs) q6; omega
            have HCALL := Lib.hid (fun w' hb' => HREC.out T' (o + 1 + B.size) w' hb' (by omega) q1 q2 q3 hsT)
            have HPN := Lib.hid q6
            have HPT := Lib.hid (sub_txt_next HONE.out (A := B) q1)
            have hTl : (byt ((T'.sub (lookB bs)).txt false)).size ≤ 20000 := by
              have e3 := Fo.txt_le (T'.sub (lookB bs)) false (Fo.sub_wf HONE.out q2)
              show ((T'.sub (lookB bs)).txt false).length ≤ 20000
              omega
            have hcnt : B.cnt = j := hP.cnt
            have HCN := Lib.hid hcnt
            obtain ⟨X, hX⟩ : ∃ X, nm.data.toList ++ [40] ++ (B.sub (lookB bs)).txt false = X := ⟨_, rfl⟩
            have HX := Lib.hid hX
            rw [hX] at HXL ⊢
            have hXl : (byt X).size ≤ 20000 := HXL.out
            have j1 : (j : Int) < la.length := by omega
            clear hX q1 q2 q3 q4 q5 q6 q7 hP hb ht hcnt hsT
            by_cases hj0 : j = 0
            · have HXN : Hid (byt X ++ byt ((T'.sub (lookB bs)).txt false) = byt (nm.data.toList ++ [40] ++ ((B.app2 T').sub (lookB bs)).txt false)) := Lib.hid (by
                rw [HPT.out, if_pos (by rw [HCN.out]; exact hj0), ← List.append_assoc, HX.out]
                rw [byt_app]; rfl)
              have e1 : ¬ (0 : Int) < j := by omega
              have e1' : ¬ 0 < j := by omega
              have HJ0 := Lib.hid hj0
              clear hj0
              go_wp2_with fail
              refine (HCALL.out _ HB.out).mono ?_
              rintro _ w2 ⟨rfl, hb2⟩
              have HB2 := Lib.hid (HB.out.trans (hb2.mono HB.out.size))
              have HT2 := Lib.hid (HT.out.below hb2 hlt)
              clear hb2 t2 a1
              go_wp2
              go_roundg (la.length - (j + 1))
              case measure => omega
              case rel => exact ⟨j + 1, B.app2 T', r, by go_num, by rw [HXN.out], rfl, by omega, HPN.out, HB2.out, HT2.out⟩
            · have HXN : Hid ((byt X ++ (⟨#[44]⟩ : ByteArray)) ++ byt ((T'.sub (lookB bs)).txt false) = byt (nm.data.toList ++ [40] ++ ((B.app2 T').sub (lookB bs)).txt false)) := Lib.hid (by
                rw [HPT.out, if_neg (by rw [HCN.out]; exact hj0), ← List.append_assoc, HX.out]
                rw [show (⟨#[44]⟩ : ByteArray) = byt [44] from rfl, byt_app, byt_app, List.append_assoc])
              have e1 : (0 : Int) < j := by omega
              have e1' : 0 < j := by omega
              clear hj0
              go_wp2_with fail
              refine (HCALL.out _ HB.out).mono ?_
              rintro _ w2 ⟨rfl, hb2⟩
              have HB2 := Lib.hid (HB.out.trans (hb2.mono HB.out.size))
              have HT2 := Lib.hid (HT.out.below hb2 hlt)
              clear hb2 t2 a1
              go_wp2
              go_roundg (la.length - (j + 1))
              case measure => omega
              case rel => exact ⟨j + 1, B.app2 T', r, by go_num, by rw [HXN.out], rfl, by omega, HPN.out, HB2.out, HT2.out⟩
          · have hBK : B = K := hP.last (by rw [← HOF.out]; exact hjl)
            have hjl' : ¬ (j : Int) < la.length := by omega
            have HBK := Lib.hid hBK
            have hXl : (byt (nm.data.toList ++ [40] ++ (B.sub (lookB bs)).txt false)).size ≤ 20000 := HXL.out
            obtain ⟨X, hX⟩ : ∃ X, nm.data.toList ++ [40] ++ (B.sub (lookB bs)).txt false = X := ⟨_, rfl⟩
            have HX := Lib.hid hX
            rw [hX] at hXl ⊢
            have HFIN : Hid (byt X ++ (⟨#[41]⟩ : ByteArray) = byt (((Fo.app nm K .nil).sub (lookB bs)).txt false)) := Lib.hid (by
              rw [← HRES.out, ← HBK.out, HX.out]
              exact byt_app X [41])
            clear hBK hP hb ht hX
            go_wp2
            go_ret
            exact ⟨by rw [← HFIN.out]; rfl, HB.out⟩
end Go.Proofs.Ytgcbnndbeoekgaa
