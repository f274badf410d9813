/- a term's text, as the document has it -/
import Derived.Test.YtgcbnndbeoekgaaDoorShowR
set_option linter.unusedSimpArgs false
set_option linter.unusedVariables false
namespace Go.Proofs.YtgcbnndbeoekgaaDoor
open Go Go.RowKit

theorem name_len {nm : ByteArray} (h : rightB nm.data.toList = true) : nm.size ≤ 32 := by
  have : nm.size = nm.data.toList.length := rfl
  rw [this]
  cases e : nm.data.toList with
  | nil => simp
  | cons c q =>
    rw [e] at h
    simp only [rightB, Bool.and_eq_true, decide_eq_true_eq] at h
    simp only [List.length_cons]; omega
theorem parT_len {A : Fo} (h : A.wf) : (parT A).length ≤ 40 * A.size + 1 := by
  unfold parT
  split
  · simp
  · have := A.txt_le false h
    simp; omega

set_option maxRecDepth 100000 in
set_option maxHeartbeats 4000000 in
theorem rtext_any (d : Nat) : ∀ (A : Option Addr) (c : Nat) (l : List TN) (T : Fo) (o : Nat) (w : World) (F : Nat → Prop), T.size ≤ d → T.one → T.wf → Seg l o T → l.length ≤ 256 → l.length ≤ c → c ≤ maxLen → (∀ b, F b → b < w.heap.size) → RowOf 3 ETN w F A l →
    Calls Tryd.prog 29 #[.slice A l.length c, .int .i64 o] w fun e w' => e = .returned (.string (byt (T.txt false))) ∧ Below w.heap.size w w' := by
  induction d with
  | zero => intro A c l T o w F hd h1; have := Fo.one_size h1; omega
  | succ d ih =>
    intro A c l T o w F hd h1 hw hsg hl hlc hc hF hr
    have hTs := hsg.le (Fo.one_size h1)
    have hol : o < l.length := by have := Fo.one_size h1; omega
    obtain ⟨b, off, S, k, rfl, hbF, d0, d1, d2, hk1, hk2, hrow⟩ := nodes_at hr hol
    have hbw := hF b hbF
    have o0 : (0 : Int) ≤ o := by omega
    have o1 : (o : Int) < l.length := by omega
    have hc2 := hc
    unfold maxLen at hc
    rcases Fo.one_cases h1 with ⟨n, rfl⟩ | ⟨nm, K, rfl⟩
    · obtain ⟨_, hat⟩ := hsg.hole
      obtain ⟨hn1, hn2, _⟩ := hw
      rw [hat] at d0 d1 d2 hk1
      simp only [List.length_nil] at d0 d1 d2 hk1
      have HT : Hid ((⟨#[63]⟩ : ByteArray) ++ byt (digs n) = byt ((Fo.hole n .nil).txt false)) := Lib.hid (by rw [hole_txt]; exact byt_app [63] (digs n))
      have hdl : (byt (digs n)).size ≤ 10 := digs_len 9 n (by omega)
      have n0 : (0 : Int) < n := by omega
      have n0' : 0 < n := by omega
      clear ih hrow hat hr hTs hsg hd h1
      go_enter Tryd.func29, Tryd.ntmps29
      go_wp2_with (go_at_call 43; refine (rshow_any n hn1 hn2 _).mono ?_; rintro e w' ⟨rfl, rfl⟩)
      go_ret
      exact ⟨by rw [← HT.out]; rfl, (Below.refl _ _).alloc (Nat.le_refl _) _⟩
    · obtain ⟨⟨_, hat⟩, hsK⟩ := hsg.app
      rw [hat] at d0 d1 d2 hk1 hrow
      simp only at d0 d1 d2 hk1 hrow
      obtain ⟨hn1, hwK, _⟩ := hw
      have hKs : K.size ≤ d ∧ K.size ≤ 256 := by
        have e : (Fo.app nm K .nil).size = 1 + K.size + 0 := rfl
        omega
      obtain ⟨hKd, hK6⟩ := hKs
      have HREC : Hid (∀ (T' : Fo) (o' : Nat) (w' : World), Below w.heap.size w w' → T'.size ≤ d → T'.one → T'.wf → Seg l o' T' → Calls Tryd.prog 29 #[.slice (some ⟨b, off, none⟩) l.length c, .int .i64 o'] w' fun e w2 => e = .returned (.string (byt (T'.txt false))) ∧ Below w'.heap.size w' w2) := Lib.hid (fun T' o' w' hb a1 a2 a3 a4 => ih _ c l T' o' w' F a1 a2 a3 a4 hl hlc hc2 (fun b h => Nat.lt_of_lt_of_le (hF b h) hb.size) (hr.keep ETN.stays (Keep.below hb hF) (fun _ h => h)))
      have HP0 : Hid (Part l o K .nil K 0) := Lib.hid (Part.start hwK hsK)
      have HOF : Hid ((K.offs (o + 1)).length = K.cnt) := Lib.hid (Fo.offs_len K (o + 1))
      have HNX : Hid (∀ A R k, Part l o K A R k → k < (K.offs (o + 1)).length → ∃ T r, T.one ∧ T.wf ∧ Seg l (o + 1 + A.size) T ∧ (∃ hk' : k < (K.offs (o + 1)).length, (K.offs (o + 1))[k] = ((o + 1 + A.size : Nat) : Int)) ∧ Part l o K (A.app2 T) r (k + 1) ∧ T.size + A.size ≤ K.size) := Lib.hid (fun A R k h hk => h.next (by rw [← HOF.out]; exact hk))
      have HTX : Hid (nm.data.toList ++ (parT K ++ (if K.cnt = 0 then [] else [41])) = (Fo.app nm K .nil).txt false) := Lib.hid (parT_end nm K)
      have HWF : Hid (∀ A R k, Part l o K A R k → A.wf ∧ A.size ≤ K.size) := Lib.hid (fun A R k h => by
        have h2 := hwK
        rw [h.eq] at h2
        have h3 := congrArg Fo.size h.eq
        rw [Fo.size_app2] at h3
        exact ⟨(Fo.wf_app2_iff.1 h2).1, by omega⟩)
      have hnl := name_len hn1
      have HNM : Hid (nm.data.toList.length ≤ 32) := Lib.hid hnl
      obtain ⟨la, hla⟩ : ∃ la, K.offs (o + 1) = la := ⟨_, rfl⟩
      rw [hla] at d2 hk1 hrow HOF
      have HNX : Hid (∀ A R k, Part l o K A R k → k < la.length → ∃ T r, T.one ∧ T.wf ∧ Seg l (o + 1 + A.size) T ∧ (∃ hk' : k < la.length, la[k] = ((o + 1 + A.size : Nat) : Int)) ∧ Part l o K (A.app2 T) r (k + 1) ∧ T.size + A.size ≤ K.size) := Lib.hid (by subst hla; exact HNX.out)
      have HROW := Lib.hid hrow
      have hkm := hk2
      unfold maxLen at hkm
      have hlal : la.length ≤ 256 := by rw [HOF.out]; have := Fo.cnt_size K; omega
      clear hat hla hr ih hTs hsg hd h1 hrow hk2 hsK hwK hn1
      go_enter Tryd.func29, Tryd.ntmps29
      go_upto_region 6 with fail
      clear d0 d1 d2
      go_loopg [6, 7] la.length (fun g s6 s7 wx => ∃ (j : Nat) (B R : Fo), s7 = .int .i64 j ∧ s6 = .string (byt (nm.data.toList ++ parT B)) ∧ g = la.length - j ∧ j ≤ la.length ∧ Part l o K B R j ∧ Below w.heap.size w wx ∧ Blk wx w.heap.size 58 #[.int .i64 0, .string nm, .slice S la.length k])
      case atStart => exact ⟨0, .nil, K, rfl, by rw [show parT .nil = [] from rfl, List.append_nil]; rfl, rfl, Nat.zero_le _, HP0.out, (Below.refl _ _).alloc (Nat.le_refl _) _, Blk.new _ _ _⟩
      case round =>
        obtain ⟨j, B, R, rfl, rfl, rfl, hj, hP, hb, ht⟩ := hrel
        have HB := Lib.hid hb; have HT := Lib.hid ht; have HP := Lib.hid hP
        have t2 := ht.cell 2
        simp at t2
        have hlt := ht.lt
        have j0 : (0 : Int) ≤ j := by omega
        have HXL : Hid ((nm.data.toList ++ parT B).length ≤ 20000) := Lib.hid (by
          obtain ⟨e1, e2⟩ := HWF.out B R j hP
          have := parT_len e1
          have := HNM.out
          rw [List.length_append]; omega)
        by_cases hjl : j < la.length
        · obtain ⟨T', r, q1, q2, q3, ⟨q4, q5⟩, q6, q7⟩ := HNX.out B R j hP hjl
          obtain ⟨g, o2, rfl, hgF, a1⟩ := ints_at (RowOf.keep EInt.stays (Keep.below hb hF) (F' := F) (fun _ h => h) HROW.out) hjl
          rw [q5] at a1
          have HCALL := Lib.hid (fun w' hb' => HREC.out T' (o + 1 + B.size) w' hb' (by omega) q1 q2 q3)
          have HPN := Lib.hid q6
          have HPT := Lib.hid (parT_next (A := B) q1)
          have hTl : (byt (T'.txt false)).size ≤ 20000 := by
            have e3 := T'.txt_le false q2
            show (T'.txt false).length ≤ 20000
            omega
          have hcnt : B.cnt = j := hP.cnt
          have HCN := Lib.hid hcnt
          obtain ⟨X, hX⟩ : ∃ X, nm.data.toList ++ parT B = X := ⟨_, rfl⟩
          have HX := Lib.hid hX
          rw [hX] at HXL ⊢
          have hXl : (byt X).size ≤ 20000 := HXL.out
          have j1 : (j : Int) < la.length := by omega
          clear hX q1 q2 q3 q4 q5 q6 q7 hP hb ht hcnt
          by_cases hj0 : j = 0
          · have HXN : Hid ((byt X ++ (⟨#[40]⟩ : ByteArray)) ++ byt (T'.txt false) = byt (nm.data.toList ++ parT (B.app2 T'))) := Lib.hid (by
              rw [HPT.out, if_pos (by rw [HCN.out]; exact hj0), ← List.append_assoc, HX.out]
              rw [show (⟨#[40]⟩ : ByteArray) = byt [40] from rfl, byt_app, byt_app, List.append_assoc])
            have e1 : ((j : Int) == 0) = true := by rw [hj0]; rfl
            have HJ0 := Lib.hid hj0
            clear hj0
            go_wp2_with fail
            refine (HCALL.out _ HB.out).mono ?_
            rintro _ w2 ⟨rfl, hb2⟩
            have HB2 := Lib.hid (HB.out.trans (hb2.mono HB.out.size))
            have HT2 := Lib.hid (HT.out.below hb2 hlt)
            clear hb2 t2 a1
            go_wp2
            go_roundg (la.length - (j + 1))
            case measure => omega
            case rel => exact ⟨j + 1, B.app2 T', r, by go_num, by rw [HXN.out], rfl, by omega, HPN.out, HB2.out, HT2.out⟩
          · have HXN : Hid ((byt X ++ (⟨#[44]⟩ : ByteArray)) ++ byt (T'.txt false) = byt (nm.data.toList ++ parT (B.app2 T'))) := Lib.hid (by
              rw [HPT.out, if_neg (by rw [HCN.out]; exact hj0), ← List.append_assoc, HX.out]
              rw [show (⟨#[44]⟩ : ByteArray) = byt [44] from rfl, byt_app, byt_app, List.append_assoc])
            have e1 : ((j : Int) == 0) = false := beq_eq_false_iff_ne.2 (by omega)
            have hj0' : ¬ (j : Int) = 0 := by omega
            clear hj0
            go_wp2_with fail
            refine (HCALL.out _ HB.out).mono ?_
            rintro _ w2 ⟨rfl, hb2⟩
            have HB2 := Lib.hid (HB.out.trans (hb2.mono HB.out.size))
            have HT2 := Lib.hid (HT.out.below hb2 hlt)
            clear hb2 t2 a1
            go_wp2
            go_roundg (la.length - (j + 1))
            case measure => omega
            case rel => exact ⟨j + 1, B.app2 T', r, by go_num, by rw [HXN.out], rfl, by omega, HPN.out, HB2.out, HT2.out⟩
        · have hBK : B = K := hP.last (by rw [← HOF.out]; exact hjl)
          have hjl' : ¬ (j : Int) < la.length := by omega
          have HBK := Lib.hid hBK
          have hXl : (byt (nm.data.toList ++ parT B)).size ≤ 20000 := HXL.out
          obtain ⟨X, hX⟩ : ∃ X, nm.data.toList ++ parT B = X := ⟨_, rfl⟩
          have HX := Lib.hid hX
          rw [hX] at hXl ⊢
          clear hBK hP hb ht hX
          by_cases hz : la.length = 0
          · have HFIN : Hid (byt X = byt ((Fo.app nm K .nil).txt false)) := Lib.hid (by
              rw [← HTX.out, if_pos (by rw [← HOF.out]; exact hz), ← HX.out, HBK.out, List.append_nil])
            have e1 : ¬ (0 : Int) < la.length := by omega
            have e1' : ¬ 0 < la.length := by omega
            have HZ := Lib.hid hz
            clear hz
            go_wp2
            go_ret
            exact ⟨by rw [← HFIN.out]; rfl, HB.out⟩
          · have HFIN : Hid (byt X ++ (⟨#[41]⟩ : ByteArray) = byt ((Fo.app nm K .nil).txt false)) := Lib.hid (by
              rw [← HTX.out, if_neg (by rw [← HOF.out]; exact hz), ← List.append_assoc, ← HBK.out, HX.out]
              exact byt_app X [41])
            have e1 : (0 : Int) < la.length := by omega
            have e1' : 0 < la.length := by omega
            clear hz
            go_wp2
            go_ret
            exact ⟨by rw [← HFIN.out]; rfl, HB.out⟩
end Go.Proofs.YtgcbnndbeoekgaaDoor
